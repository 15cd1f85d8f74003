/- Primes, numbers of fields, and lists of them: both texts. Conditions: none. -/
import Derived.Test.YtabnganndcmcnaaFnB
import Derived.Test.YtabnganndcmcnaaFnH
set_option linter.unusedSimpArgs false
set_option linter.unusedVariables false
namespace Go.Proofs.Ytabnganndcmcnaa.Ev
open Go Go.Proofs
open List (map_replicate map_set map_append map_reverse map_take map_drop map_tail any_map all_map mapM_map map_map)
set_option maxRecDepth 4000
set_option maxHeartbeats 4000000

/-! ### Primes -/
/-- No number from k on whose square is at most p divides p. -/
def noDiv (p : Int) (k : Nat) : Bool := (List.range 101).all fun j => decide (j < k) || decide (p < (j : Int) * j) || !decide (p.tmod (j : Int) = 0)
def primeB (p : Int) : Bool := decide (2 ≤ p) && decide (p ≤ 10007) && noDiv p 2

theorem noDiv_last {p : Int} {k : Nat} (hp : p ≤ 10007) (h : p < (k : Int) * k) : noDiv p k = true := by
  unfold noDiv
  rw [List.all_eq_true]
  intro j hj
  by_cases h1 : j < k
  · simp [h1]
  · have : (k : Int) * k ≤ (j : Int) * j := Int.mul_le_mul (by omega) (by omega) (by omega) (by omega)
    have : p < (j : Int) * j := by omega
    simp [this]
theorem noDiv_false {p : Int} {k : Nat} (hk : k < 101) (h : ¬ p < (k : Int) * k) (hd : p.tmod (k : Int) = 0) : noDiv p k = false := by
  unfold noDiv
  rw [List.all_eq_false]
  refine ⟨k, by simpa using hk, ?_⟩
  simp [h, hd]
theorem noDiv_next {p : Int} {k : Nat} (hd : ¬ p.tmod (k : Int) = 0) : noDiv p k = noDiv p (k + 1) := by
  unfold noDiv
  apply Bool.eq_iff_iff.2
  rw [List.all_eq_true, List.all_eq_true]
  constructor
  · intro h j hj
    have := h j hj
    by_cases h1 : j < k + 1
    · simp [h1]
    · have h2 : ¬ j < k := by omega
      simpa [h1, h2] using this
  · intro h j hj
    have := h j hj
    by_cases h1 : j < k
    · simp [h1]
    · by_cases h2 : j = k
      · subst h2; simp [hd]
      · have h3 : ¬ j < k + 1 := by omega
        simpa [h1, h3] using this

theorem sq_lt {k : Nat} {p : Int} (hp : p ≤ 10007) (h : ¬ p < (k : Int) * k) : k < 101 := by
  rcases Nat.lt_or_ge k 101 with h1 | h1
  · exact h1
  · have : (101 : Int) * 101 ≤ (k : Int) * k := Int.mul_le_mul (by omega) (by omega) (by omega) (by omega)
    omega

theorem run_l01In' (n lo hi : Int) : runv E0 121 [.int .i64 n, .int .i64 lo, .int .i64 hi] = some ⟨true, .bool (decide (lo ≤ n) && decide (n ≤ hi)), [.undef, .undef, .undef]⟩ := by
  have cdk : codeOk Try.f121.ntmps (Try.f121.body.getD .skip) = true := by kernel_rfl
  refine run_of_WL (fn := Try.f121) rfl Try.func121 rfl ⟨by simp [Try.ntmps121], by simp [wideA, ints], cdk, by simp [Try.f121]⟩ ?_
  by_cases h1 : lo ≤ n <;> simp [go_sem, -map_replicate, -map_set, -map_append, -map_reverse, -map_take, -map_drop, -map_tail, -any_map, -all_map, -mapM_map, -map_map, h1] <;> simp [mvcgen_simp, -map_replicate, -map_set, -map_append, -map_reverse, -map_take, -map_drop, -map_tail, -any_map, -all_map, -mapM_map, -map_map, Try.f121]

theorem run_IsPrime (p : Int) : runv E0 225 [.int .i64 p] = some ⟨true, .bool (primeB p), [.undef]⟩ := by
  have cdk : codeOk Try.f225.ntmps (Try.f225.body.getD .skip) = true := by kernel_rfl
  refine run_of_WL (fn := Try.f225) rfl Try.func225 rfl ⟨by simp [Try.ntmps225], by simp [wideA, ints], cdk, by simp [Try.f225]⟩ ?_
  by_cases hr : 2 ≤ p ∧ p ≤ 10007
  case neg =>
    have h1 : (decide (2 ≤ p) && decide (p ≤ 10007)) = false := by simpa using hr
    simp [go_sem, -map_replicate, -map_set, -map_append, -map_reverse, -map_take, -map_drop, -map_tail, -any_map, -all_map, -mapM_map, -map_map, slL, szI, ldI, zI, undL, apL, setI, rdI_get, Nat.add_one_le_iff, fillV, zeros1, zeros0, appendD, segV, lvO, goneOf, sliceD, bound, Nat.add_assoc, run_within, h1]
    simp [mvcgen_simp, -map_replicate, -map_set, -map_append, -map_reverse, -map_take, -map_drop, -map_tail, -any_map, -all_map, -mapM_map, -map_map, Try.f225, primeB, h1]
  have h1 : primeB p = noDiv p 2 := by simp [primeB, hr.1, hr.2]
  simp [go_sem, -map_replicate, -map_set, -map_append, -map_reverse, -map_take, -map_drop, -map_tail, -any_map, -all_map, -mapM_map, -map_map, slL, szI, ldI, zI, undL, apL, setI, rdI_get, Nat.add_one_le_iff, fillV, zeros1, zeros0, appendD, segV, lvO, goneOf, sliceD, bound, Nat.add_assoc, run_within, hr.1, hr.2]
  rw [WL_loop]
  refine WL_rounds (I := fun j st => ∃ k : Nat, st.fr 0 = .int .i64 p ∧ st.fr 3 = .int .i64 k ∧ 2 ≤ k ∧ k ≤ 101 ∧ j + k = 101 ∧ noDiv p 2 = noDiv p k) ?_ 99 _ ?_
  · rintro j st ⟨k, he0, he1, he2, he3, he4, he5⟩ next
    have hsq : (k : Int) * k ≤ 10201 := by
      have : (k : Int) * k ≤ 101 * 101 := Int.mul_le_mul (by omega) (by omega) (by omega) (by omega)
      omega
    have hsq0 : 0 ≤ (k : Int) * k := Int.mul_nonneg (by omega) (by omega)
    have w1 : IntKind.i64.wrap ((k : Int) * k) = (k : Int) * k := IntWalk.i64_in _ (by omega)
    have w2 : IntKind.i64.wrap ((k : Int) + 1) = (k : Int) + 1 := IntWalk.i64_in _ (by omega)
    by_cases hk : (k : Int) * k ≤ p
    · have hk' := sq_lt hr.2 (k := k) (p := p) (by omega)
      have hne : ¬ (k : Int) = 0 := by omega
      have hne' : ¬ k = 0 := by omega
      by_cases hd : p.tmod (k : Int) = 0
      · simp [go_sem, -map_replicate, -map_set, -map_append, -map_reverse, -map_take, -map_drop, -map_tail, -any_map, -all_map, -mapM_map, -map_map, slL, szI, ldI, zI, undL, apL, setI, rdI_get, Nat.add_one_le_iff, fillV, zeros1, zeros0, appendD, segV, lvO, goneOf, sliceD, bound, Nat.add_assoc, he0, he1, w1, hk, hne, hne', hd]
        simp [mvcgen_simp, -map_replicate, -map_set, -map_append, -map_reverse, -map_take, -map_drop, -map_tail, -any_map, -all_map, -mapM_map, -map_map, Try.f225, h1, he5, noDiv_false hk' (by omega) hd]
      · simp [go_sem, -map_replicate, -map_set, -map_append, -map_reverse, -map_take, -map_drop, -map_tail, -any_map, -all_map, -mapM_map, -map_map, slL, szI, ldI, zI, undL, apL, setI, rdI_get, Nat.add_one_le_iff, fillV, zeros1, zeros0, appendD, segV, lvO, goneOf, sliceD, bound, Nat.add_assoc, he0, he1, w1, w2, hk, hne, hne', hd]
        refine next (j - 1) _ (by omega) ⟨k + 1, ?_⟩
        simp [upd, he0, he1, he5, noDiv_next hd]
        omega
    · simp [go_sem, -map_replicate, -map_set, -map_append, -map_reverse, -map_take, -map_drop, -map_tail, -any_map, -all_map, -mapM_map, -map_map, slL, szI, ldI, zI, undL, apL, setI, rdI_get, Nat.add_one_le_iff, fillV, zeros1, zeros0, appendD, segV, lvO, goneOf, sliceD, bound, Nat.add_assoc, he0, he1, w1, hk]
      simp [mvcgen_simp, -map_replicate, -map_set, -map_append, -map_reverse, -map_take, -map_drop, -map_tail, -any_map, -all_map, -mapM_map, -map_map, Try.f225, h1, he5, noDiv_last hr.2 (show p < (k : Int) * k by omega)]
  · refine ⟨2, rfl, rfl, by omega, by omega, rfl, rfl⟩

theorem run_l01Prime (p : Int) : runv E0 216 [.int .i64 p] = some ⟨true, .bool (primeB p), [.undef]⟩ := by
  have cdk : codeOk Try.f216.ntmps (Try.f216.body.getD .skip) = true := by kernel_rfl
  refine run_of_WL (fn := Try.f216) rfl Try.func216 rfl ⟨by simp [Try.ntmps216], by simp [wideA, ints], cdk, by simp [Try.f216]⟩ ?_
  by_cases hr : 2 ≤ p ∧ p ≤ 10007
  case neg =>
    have h1 : (decide (2 ≤ p) && decide (p ≤ 10007)) = false := by simpa using hr
    simp [go_sem, -map_replicate, -map_set, -map_append, -map_reverse, -map_take, -map_drop, -map_tail, -any_map, -all_map, -mapM_map, -map_map, slL, szI, ldI, zI, undL, apL, setI, rdI_get, Nat.add_one_le_iff, fillV, zeros1, zeros0, appendD, segV, lvO, goneOf, sliceD, bound, Nat.add_assoc, run_l01In', h1]
    simp [mvcgen_simp, -map_replicate, -map_set, -map_append, -map_reverse, -map_take, -map_drop, -map_tail, -any_map, -all_map, -mapM_map, -map_map, Try.f216, primeB, h1]
  have h1 : primeB p = noDiv p 2 := by simp [primeB, hr.1, hr.2]
  simp [go_sem, -map_replicate, -map_set, -map_append, -map_reverse, -map_take, -map_drop, -map_tail, -any_map, -all_map, -mapM_map, -map_map, slL, szI, ldI, zI, undL, apL, setI, rdI_get, Nat.add_one_le_iff, fillV, zeros1, zeros0, appendD, segV, lvO, goneOf, sliceD, bound, Nat.add_assoc, run_l01In', hr.1, hr.2]
  rw [WL_loop]
  refine WL_rounds (I := fun j st => ∃ k : Nat, st.fr 0 = .int .i64 p ∧ st.fr 3 = .int .i64 k ∧ 2 ≤ k ∧ k ≤ 101 ∧ j + k = 101 ∧ noDiv p 2 = noDiv p k) ?_ 99 _ ?_
  · rintro j st ⟨k, he0, he1, he2, he3, he4, he5⟩ next
    have hsq : (k : Int) * k ≤ 10201 := by
      have : (k : Int) * k ≤ 101 * 101 := Int.mul_le_mul (by omega) (by omega) (by omega) (by omega)
      omega
    have hsq0 : 0 ≤ (k : Int) * k := Int.mul_nonneg (by omega) (by omega)
    have w1 : IntKind.i64.wrap ((k : Int) * k) = (k : Int) * k := IntWalk.i64_in _ (by omega)
    have w2 : IntKind.i64.wrap ((k : Int) + 1) = (k : Int) + 1 := IntWalk.i64_in _ (by omega)
    by_cases hk : (k : Int) * k ≤ p
    · have hk' := sq_lt hr.2 (k := k) (p := p) (by omega)
      have hne : ¬ (k : Int) = 0 := by omega
      have hne' : ¬ k = 0 := by omega
      by_cases hd : p.tmod (k : Int) = 0
      · simp [go_sem, -map_replicate, -map_set, -map_append, -map_reverse, -map_take, -map_drop, -map_tail, -any_map, -all_map, -mapM_map, -map_map, slL, szI, ldI, zI, undL, apL, setI, rdI_get, Nat.add_one_le_iff, fillV, zeros1, zeros0, appendD, segV, lvO, goneOf, sliceD, bound, Nat.add_assoc, he0, he1, w1, hk, hne, hne', hd]
        simp [mvcgen_simp, -map_replicate, -map_set, -map_append, -map_reverse, -map_take, -map_drop, -map_tail, -any_map, -all_map, -mapM_map, -map_map, Try.f216, h1, he5, noDiv_false hk' (by omega) hd]
      · simp [go_sem, -map_replicate, -map_set, -map_append, -map_reverse, -map_take, -map_drop, -map_tail, -any_map, -all_map, -mapM_map, -map_map, slL, szI, ldI, zI, undL, apL, setI, rdI_get, Nat.add_one_le_iff, fillV, zeros1, zeros0, appendD, segV, lvO, goneOf, sliceD, bound, Nat.add_assoc, he0, he1, w1, w2, hk, hne, hne', hd]
        refine next (j - 1) _ (by omega) ⟨k + 1, ?_⟩
        simp [upd, he0, he1, he5, noDiv_next hd]
        omega
    · simp [go_sem, -map_replicate, -map_set, -map_append, -map_reverse, -map_take, -map_drop, -map_tail, -any_map, -all_map, -mapM_map, -map_map, slL, szI, ldI, zI, undL, apL, setI, rdI_get, Nat.add_one_le_iff, fillV, zeros1, zeros0, appendD, segV, lvO, goneOf, sliceD, bound, Nat.add_assoc, he0, he1, w1, hk]
      simp [mvcgen_simp, -map_replicate, -map_set, -map_append, -map_reverse, -map_take, -map_drop, -map_tail, -any_map, -all_map, -mapM_map, -map_map, Try.f216, h1, he5, noDiv_last hr.2 (show p < (k : Int) * k by omega)]
  · refine ⟨2, rfl, rfl, by omega, by omega, rfl, rfl⟩

/-! ### Fields -/
def hasB (p x : Int) : Bool := decide (0 ≤ x) && decide (x < p)
def unitB (p x : Int) : Bool := decide (1 ≤ x) && decide (x < p)
theorem prime_range {p : Int} (h : primeB p = true) : 2 ≤ p ∧ p ≤ 10007 := by
  simp [primeB] at h; omega
theorem hasB_range {p x : Int} (h : hasB p x = true) : 0 ≤ x ∧ x < p := by simp [hasB] at h; exact h
theorem unitB_range {p x : Int} (h : unitB p x = true) : 1 ≤ x ∧ x < p := by simp [unitB] at h; exact h

theorem run_has (p x : Int) : runv E0 140 [.int .i64 p, .int .i64 x] = some ⟨true, .bool (hasB p x), [.undef, .undef]⟩ := by
  have cdk : codeOk Try.f140.ntmps (Try.f140.body.getD .skip) = true := by kernel_rfl
  refine run_of_WL (fn := Try.f140) rfl Try.func140 rfl ⟨by simp [Try.ntmps140], by simp [wideA, ints], cdk, by simp [Try.f140]⟩ ?_
  by_cases h : 0 ≤ x
  · simp [go_sem, -map_replicate, -map_set, -map_append, -map_reverse, -map_take, -map_drop, -map_tail, -any_map, -all_map, -mapM_map, -map_map, slL, szI, ldI, zI, undL, apL, setI, rdI_get, Nat.add_one_le_iff, fillV, zeros1, zeros0, appendD, segV, lvO, goneOf, sliceD, bound, Nat.add_assoc, h]
    simp [mvcgen_simp, -map_replicate, -map_set, -map_append, -map_reverse, -map_take, -map_drop, -map_tail, -any_map, -all_map, -mapM_map, -map_map, Try.f140, hasB, h]
  · simp [go_sem, -map_replicate, -map_set, -map_append, -map_reverse, -map_take, -map_drop, -map_tail, -any_map, -all_map, -mapM_map, -map_map, slL, szI, ldI, zI, undL, apL, setI, rdI_get, Nat.add_one_le_iff, fillV, zeros1, zeros0, appendD, segV, lvO, goneOf, sliceD, bound, Nat.add_assoc, h]
    simp [mvcgen_simp, -map_replicate, -map_set, -map_append, -map_reverse, -map_take, -map_drop, -map_tail, -any_map, -all_map, -mapM_map, -map_map, Try.f140, hasB, h]
theorem run_isUnit (p x : Int) (hp : 2 ≤ p ∧ p ≤ 10007) : runv E0 148 [.int .i64 p, .int .i64 x] = some ⟨true, .bool (unitB p x), [.undef, .undef]⟩ := by
  have cdk : codeOk Try.f148.ntmps (Try.f148.body.getD .skip) = true := by kernel_rfl
  refine run_of_WL (fn := Try.f148) rfl Try.func148 rfl ⟨by simp [Try.ntmps148], by simp [wideA, ints], cdk, by simp [Try.f148]⟩ ?_
  have w : IntKind.i64.wrap (p - 1) = p - 1 := IntWalk.i64_in _ (by omega)
  have e : decide (x ≤ p - 1) = decide (x < p) := by rw [decide_eq_decide]; omega
  simp [go_sem, -map_replicate, -map_set, -map_append, -map_reverse, -map_take, -map_drop, -map_tail, -any_map, -all_map, -mapM_map, -map_map, slL, szI, ldI, zI, undL, apL, setI, rdI_get, Nat.add_one_le_iff, fillV, zeros1, zeros0, appendD, segV, lvO, goneOf, sliceD, bound, Nat.add_assoc, w, run_within, e]
  simp [mvcgen_simp, -map_replicate, -map_set, -map_append, -map_reverse, -map_take, -map_drop, -map_tail, -any_map, -all_map, -mapM_map, -map_map, Try.f148, unitB]
/-- What modulo means for numbers that are not too large. -/
theorem mod_eq {p x : Int} (hp : 0 < p) : ((x.tmod p) + p).tmod p = x % p := by
  have h1 : (x.tmod p + p) % p = x % p := by
    rw [Int.add_emod_right]
    rcases Int.le_total 0 x with h | h
    · rw [Int.tmod_eq_emod_of_nonneg h, Int.emod_emod_of_dvd _ (Int.dvd_refl p)]
    · have := Int.tmod_def x p
      rw [this, Int.sub_mul_emod_self_left]
  have h2 : 0 ≤ x.tmod p + p := by
    have := Int.lt_tmod_of_pos x hp
    omega
  rw [Int.tmod_eq_emod_of_nonneg h2, h1]
theorem run_mod (p x : Int) (hp : 2 ≤ p ∧ p ≤ 10007) : runv E0 144 [.int .i64 p, .int .i64 x] = some ⟨true, .int .i64 (x % p), [.undef, .undef]⟩ := by
  have cdk : codeOk Try.f144.ntmps (Try.f144.body.getD .skip) = true := by kernel_rfl
  refine run_of_WL (fn := Try.f144) rfl Try.func144 rfl ⟨by simp [Try.ntmps144], by simp [wideA, ints], cdk, by simp [Try.f144]⟩ ?_
  have h1 := Int.tmod_lt_of_pos x (show 0 < p by omega)
  have h2 := Int.lt_tmod_of_pos x (show 0 < p by omega)
  have w : IntKind.i64.wrap (x.tmod p + p) = x.tmod p + p := IntWalk.i64_in _ (by omega)
  have hne : ¬ p = 0 := by omega
  simp [go_sem, -map_replicate, -map_set, -map_append, -map_reverse, -map_take, -map_drop, -map_tail, -any_map, -all_map, -mapM_map, -map_map, slL, szI, ldI, zI, undL, apL, setI, rdI_get, Nat.add_one_le_iff, fillV, zeros1, zeros0, appendD, segV, lvO, goneOf, sliceD, bound, Nat.add_assoc, hne, w, mod_eq (show 0 < p by omega)]
  simp [mvcgen_simp, -map_replicate, -map_set, -map_append, -map_reverse, -map_take, -map_drop, -map_tail, -any_map, -all_map, -mapM_map, -map_map, Try.f144]
theorem run_mul (p x y : Int) (hp : 2 ≤ p ∧ p ≤ 10007) (hw : IntKind.i64.wrap (x * y) = x * y) : runv E0 150 [.int .i64 p, .int .i64 x, .int .i64 y] = some ⟨true, .int .i64 (x * y % p), [.undef, .undef, .undef]⟩ := by
  have cdk : codeOk Try.f150.ntmps (Try.f150.body.getD .skip) = true := by kernel_rfl
  refine run_of_WL (fn := Try.f150) rfl Try.func150 rfl ⟨by simp [Try.ntmps150], by simp [wideA, ints], cdk, by simp [Try.f150]⟩ ?_
  simp [go_sem, -map_replicate, -map_set, -map_append, -map_reverse, -map_take, -map_drop, -map_tail, -any_map, -all_map, -mapM_map, -map_map, slL, szI, ldI, zI, undL, apL, setI, rdI_get, Nat.add_one_le_iff, fillV, zeros1, zeros0, appendD, segV, lvO, goneOf, sliceD, bound, Nat.add_assoc, hw, run_mod p _ hp]
  simp [mvcgen_simp, -map_replicate, -map_set, -map_append, -map_reverse, -map_take, -map_drop, -map_tail, -any_map, -all_map, -mapM_map, -map_map, Try.f150]
theorem run_l01Mod (p x : Int) (hp : 2 ≤ p ∧ p ≤ 10007) : runv E0 151 [.int .i64 p, .int .i64 x] = some ⟨true, .int .i64 (x % p), [.undef, .undef]⟩ := by
  have cdk : codeOk Try.f151.ntmps (Try.f151.body.getD .skip) = true := by kernel_rfl
  refine run_of_WL (fn := Try.f151) rfl Try.func151 rfl ⟨by simp [Try.ntmps151], by simp [wideA, ints], cdk, by simp [Try.f151]⟩ ?_
  have h1 := Int.tmod_lt_of_pos x (show 0 < p by omega)
  have h2 := Int.lt_tmod_of_pos x (show 0 < p by omega)
  have w : IntKind.i64.wrap (x.tmod p + p) = x.tmod p + p := IntWalk.i64_in _ (by omega)
  have hne : ¬ p = 0 := by omega
  simp [go_sem, -map_replicate, -map_set, -map_append, -map_reverse, -map_take, -map_drop, -map_tail, -any_map, -all_map, -mapM_map, -map_map, slL, szI, ldI, zI, undL, apL, setI, rdI_get, Nat.add_one_le_iff, fillV, zeros1, zeros0, appendD, segV, lvO, goneOf, sliceD, bound, Nat.add_assoc, hne, w, mod_eq (show 0 < p by omega)]
  simp [mvcgen_simp, -map_replicate, -map_set, -map_append, -map_reverse, -map_take, -map_drop, -map_tail, -any_map, -all_map, -mapM_map, -map_map, Try.f151]

theorem mul_small {p x y : Int} (hp : 2 ≤ p ∧ p ≤ 10007) (hx : 0 ≤ x ∧ x < p) (hy : 0 ≤ y ∧ y < p) : 0 ≤ x * y ∧ x * y ≤ 100140049 := by
  refine ⟨Int.mul_nonneg hx.1 hy.1, ?_⟩
  calc x * y ≤ 10007 * 10007 := Int.mul_le_mul (by omega) (by omega) hy.1 (by omega)
    _ = 100140049 := by decide
theorem mod_small {p : Int} (hp : 2 ≤ p ∧ p ≤ 10007) (x : Int) : 0 ≤ x % p ∧ x % p < p := ⟨Int.emod_nonneg _ (by omega), Int.emod_lt_of_pos _ (by omega)⟩

/-! ### Lists of numbers of a field -/
theorem run_l02Numbers (p : Int) (l : List Int) (hp : 2 ≤ p ∧ p ≤ 10007) (hl : l.length ≤ 9223372036854775807) :
    runv E0 252 [.int .i64 p, .list l.length (l.map (V.int .i64))] = some ⟨true, .bool (l.all (hasB p)), [.undef, .undef]⟩ := by
  have cdk : codeOk Try.f252.ntmps (Try.f252.body.getD .skip) = true := by kernel_rfl
  refine run_of_WL (fn := Try.f252) rfl Try.func252 rfl ⟨by simp [Try.ntmps252], by simp [wideA, ints], cdk, by simp [Try.f252]⟩ ?_
  have w : IntKind.i64.wrap (p - 1) = p - 1 := IntWalk.i64_in _ (by omega)
  have ex : ∀ x, (decide (0 ≤ x) && decide (x ≤ p - 1)) = hasB p x := by
    intro x; unfold hasB; congr 1; rw [decide_eq_decide]; omega
  simp [go_sem, -map_replicate, -map_set, -map_append, -map_reverse, -map_take, -map_drop, -map_tail, -any_map, -all_map, -mapM_map, -map_map, slL, szI, ldI, zI, undL, apL, setI, rdI_get, Nat.add_one_le_iff, fillV, zeros1, zeros0, appendD, segV, lvO, goneOf, sliceD, bound, Nat.add_assoc]
  rw [WL_loop]
  refine WL_count (I := fun i st => st.fr 0 = .int .i64 p ∧ st.fr 1 = .list l.length (l.map (V.int .i64)) ∧ st.fr 5 = .int .i64 i ∧ (∀ j, j < i → hasB p (rdI l j) = true)) l.length ?_ ?_ 0 _ (by omega) ?_
  · rintro i st hi ⟨he0, he1, he2, he3⟩ next
    have hin := run_l01In' (rdI l i) 0 (p - 1)
    rw [ex] at hin
    have w1 : IntKind.i64.wrap ((i : Int) + 1) = (i : Int) + 1 := IntWalk.i64_in _ (by omega)
    cases hx : hasB p (rdI l i) with
    | true =>
      rw [hx] at hin
      simp [go_sem, -map_replicate, -map_set, -map_append, -map_reverse, -map_take, -map_drop, -map_tail, -any_map, -all_map, -mapM_map, -map_map, slL, szI, ldI, zI, undL, apL, setI, rdI_get, Nat.add_one_le_iff, fillV, zeros1, zeros0, appendD, segV, lvO, goneOf, sliceD, bound, Nat.add_assoc, he0, he1, he2, hi, w, w1, hin]
      refine next _ ?_
      simp [upd, he0, he1, he2]
      intro j hj
      by_cases h : j = i
      · subst h; exact hx
      · exact he3 j (by omega)
    | false =>
      rw [hx] at hin
      simp [go_sem, -map_replicate, -map_set, -map_append, -map_reverse, -map_take, -map_drop, -map_tail, -any_map, -all_map, -mapM_map, -map_map, slL, szI, ldI, zI, undL, apL, setI, rdI_get, Nat.add_one_le_iff, fillV, zeros1, zeros0, appendD, segV, lvO, goneOf, sliceD, bound, Nat.add_assoc, he0, he1, he2, hi, w, w1, hin]
      simp [mvcgen_simp, -map_replicate, -map_set, -map_append, -map_reverse, -map_take, -map_drop, -map_tail, -any_map, -all_map, -mapM_map, -map_map, Try.f252]
      exact ⟨rdI l i, rdI_get hi ▸ List.getElem_mem hi, hx⟩
  · rintro st ⟨he0, he1, he2, he3⟩
    simp [go_sem, -map_replicate, -map_set, -map_append, -map_reverse, -map_take, -map_drop, -map_tail, -any_map, -all_map, -mapM_map, -map_map, slL, szI, ldI, zI, undL, apL, setI, rdI_get, Nat.add_one_le_iff, fillV, zeros1, zeros0, appendD, segV, lvO, goneOf, sliceD, bound, Nat.add_assoc, he0, he1, he2]
    simp [mvcgen_simp, -map_replicate, -map_set, -map_append, -map_reverse, -map_take, -map_drop, -map_tail, -any_map, -all_map, -mapM_map, -map_map, Try.f252]
    intro x hx
    obtain ⟨j, hj, rfl⟩ := List.getElem_of_mem hx
    rw [rdI_get hj]
    exact he3 j hj
  · refine ⟨rfl, rfl, rfl, by omega⟩

end Go.Proofs.Ytabnganndcmcnaa.Ev
