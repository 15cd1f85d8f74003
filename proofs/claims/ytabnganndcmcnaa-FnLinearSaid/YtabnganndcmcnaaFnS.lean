/- Powers; DivideMoments and AddMass. Conditions: none. -/
import Derived.Test.YtabnganndcmcnaaFnR
set_option linter.unusedSimpArgs false
set_option linter.unusedVariables false
namespace Go.Proofs.Ytabnganndcmcnaa.Ev
open Go Go.Proofs
open List (map_replicate map_set map_append map_reverse map_take map_drop map_tail any_map all_map mapM_map map_map)
set_option maxRecDepth 4000
set_option maxHeartbeats 4000000

/-! ### Powers -/
theorem pow_mod_congr {p a b : Int} (h : a % p = b % p) : ∀ n : Nat, a ^ n % p = b ^ n % p
  | 0 => by rw [Int.pow_zero, Int.pow_zero]
  | n + 1 => by rw [Int.pow_succ, Int.pow_succ, Int.mul_emod, pow_mod_congr h n, h, ← Int.mul_emod]
theorem emod_emod' (a p : Int) : a % p % p = a % p := Int.emod_emod_of_dvd _ (Int.dvd_refl p)
theorem mul_mod_congr {p a b c d : Int} (h : a % p = b % p) (k : c % p = d % p) : a * c % p = b * d % p := by rw [Int.mul_emod, h, k, ← Int.mul_emod]
theorem add_mod_congr {p a b c d : Int} (h : a % p = b % p) (k : c % p = d % p) : (a + c) % p = (b + d) % p := by rw [Int.add_emod, h, k, ← Int.add_emod]
theorem sq_pow (x : Int) (m : Nat) : (x * x) ^ m = x ^ (2 * m) := by
  rw [Int.pow_mul]; congr 1; rw [show (2 : Nat) = 1 + 1 from rfl, Int.pow_succ, Int.pow_succ]; simp
theorem pow_even (p o x : Int) (m : Nat) : o * (x * x % p) ^ m % p = o * x ^ (2 * m) % p := by
  rw [← sq_pow]; exact mul_mod_congr rfl (pow_mod_congr (emod_emod' _ _) m)
theorem pow_odd (p o x : Int) (m : Nat) : (o * x % p) * (x * x % p) ^ m % p = o * x ^ (2 * m + 1) % p := by
  rw [pow_even, Int.pow_succ, Int.mul_comm (x ^ (2 * m)), ← Int.mul_assoc]
  exact mul_mod_congr (emod_emod' _ _) rfl

theorem run_power (p x : Int) (n : Nat) (hp : 2 ≤ p ∧ p ≤ 10007) (hx : 0 ≤ x ∧ x < p) (hn : n ≤ 9223372036854775807) :
    runv E0 263 [.int .i64 p, .int .i64 x, .int .i64 (n : Int)] = some ⟨true, .int .i64 (x ^ n % p), [.undef, .undef, .undef]⟩ := by
  have cdk : codeOk Try.f263.ntmps (Try.f263.body.getD .skip) = true := by kernel_rfl
  refine run_of_WL (fn := Try.f263) rfl Try.func263 rfl ⟨by simp [Try.ntmps263], by simp [wideA, ints], cdk, by simp [Try.f263]⟩ ?_
  have h1 := run_mod p 1 hp
  rw [Int.emod_eq_of_lt (by omega) (by omega)] at h1
  simp [go_sem, -map_replicate, -map_set, -map_append, -map_reverse, -map_take, -map_drop, -map_tail, -any_map, -all_map, -mapM_map, -map_map, slL, szI, ldI, zI, undL, apL, setI, rdI_get, Nat.add_one_le_iff, fillV, zeros1, zeros0, appendD, segV, lvO, goneOf, sliceD, bound, Nat.add_assoc, h1]
  rw [WL_loop]
  refine WL_rounds (I := fun j st => ∃ (y o : Int), st.fr 0 = .int .i64 p ∧ st.fr 1 = .int .i64 y ∧ st.fr 2 = .int .i64 j ∧ st.fr 7 = .int .i64 o ∧ 0 ≤ y ∧ y < p ∧ 0 ≤ o ∧ o < p ∧ o * y ^ j % p = x ^ n % p ∧ j ≤ n) ?_ n _ ?_
  · rintro j st ⟨y, o, he0, he1, he2, he3, he4, he5, he6, he7, he8, he9⟩ next
    have hy := mul_small hp (show 0 ≤ y ∧ y < p by omega) (show 0 ≤ y ∧ y < p by omega)
    have ho := mul_small hp (show 0 ≤ o ∧ o < p by omega) (show 0 ≤ y ∧ y < p by omega)
    have m1 := run_mul p y y hp (IntWalk.i64_in _ (by omega))
    have m2 := run_mul p o y hp (IntWalk.i64_in _ (by omega))
    have q1 := mod_small hp (y * y)
    have q2 := mod_small hp (o * y)
    have w1 : IntKind.i64.wrap ((j : Int) / 2) = ((j / 2 : Nat) : Int) := by rw [IntWalk.i64_in _ (by omega)]; omega
    have d1 : (j : Int).tdiv 2 = (j : Int) / 2 := Int.tdiv_eq_ediv_of_nonneg (by omega)
    have d2 : (j : Int).tmod 2 = (j : Int) % 2 := Int.tmod_eq_emod_of_nonneg (by omega)
    by_cases hj : 0 < j
    · by_cases hodd : j % 2 = 1
      · have hodd' : (j : Int) % 2 = 1 := by omega
        simp [go_sem, -map_replicate, -map_set, -map_append, -map_reverse, -map_take, -map_drop, -map_tail, -any_map, -all_map, -mapM_map, -map_map, slL, szI, ldI, zI, undL, apL, setI, rdI_get, Nat.add_one_le_iff, fillV, zeros1, zeros0, appendD, segV, lvO, goneOf, sliceD, bound, Nat.add_assoc, he0, he1, he2, he3, hj, d1, d2, hodd', m1, m2, w1]
        refine next (j / 2) _ (by omega) ⟨y * y % p, o * y % p, ?_⟩
        simp [upd, he0, he1, he2, he3, q1, q2]
        refine ⟨?_, by omega⟩
        rw [pow_odd, show 2 * (j / 2) + 1 = j by omega]
        exact he8
      · have hodd' : ¬ (j : Int) % 2 = 1 := by omega
        simp [go_sem, -map_replicate, -map_set, -map_append, -map_reverse, -map_take, -map_drop, -map_tail, -any_map, -all_map, -mapM_map, -map_map, slL, szI, ldI, zI, undL, apL, setI, rdI_get, Nat.add_one_le_iff, fillV, zeros1, zeros0, appendD, segV, lvO, goneOf, sliceD, bound, Nat.add_assoc, he0, he1, he2, he3, hj, d1, d2, hodd', m1, m2, w1]
        refine next (j / 2) _ (by omega) ⟨y * y % p, o, ?_⟩
        simp [upd, he0, he1, he2, he3, q1, he6, he7]
        refine ⟨?_, by omega⟩
        rw [pow_even, show 2 * (j / 2) = j by omega]
        exact he8
    · have : j = 0 := by omega
      subst this
      have ho' : o = x ^ n % p := by rw [← he8, Int.pow_zero, Int.mul_one, Int.emod_eq_of_lt he6 he7]
      simp [go_sem, -map_replicate, -map_set, -map_append, -map_reverse, -map_take, -map_drop, -map_tail, -any_map, -all_map, -mapM_map, -map_map, slL, szI, ldI, zI, undL, apL, setI, rdI_get, Nat.add_one_le_iff, fillV, zeros1, zeros0, appendD, segV, lvO, goneOf, sliceD, bound, Nat.add_assoc, he0, he1, he2, he3]
      simp [mvcgen_simp, -map_replicate, -map_set, -map_append, -map_reverse, -map_take, -map_drop, -map_tail, -any_map, -all_map, -mapM_map, -map_map, Try.f263, ho']
  · refine ⟨x, 1, rfl, rfl, rfl, rfl, hx.1, hx.2, by omega, by omega, by rw [Int.one_mul], Nat.le_refl _⟩

/-! ### A list that is written over -/
def inpl (n i : Nat) (f g : Nat → Int) : List Int := tab n fun k => if k < i then f k else g k
theorem inpl_len (n i : Nat) (f g : Nat → Int) : (inpl n i f g).length = n := tab_len _ _
theorem inpl_rd {n i : Nat} {f g : Nat → Int} (h : i < n) : rdI (inpl n i f g) i = g i := by
  unfold inpl; rw [tab_rd h]; simp
theorem inpl_set (n i : Nat) (f g : Nat → Int) : (inpl n i f g).set i (f i) = inpl n (i + 1) f g := by
  unfold inpl
  rw [tab_set]
  apply tab_ext
  intro k hk
  by_cases h : i = k
  · subst h; simp
  · have : (k < i + 1) ↔ (k < i) := by omega
    simp [h, this]
theorem inpl_zero (n : Nat) (f g : Nat → Int) : inpl n 0 f g = tab n g := tab_ext fun k hk => by simp
theorem inpl_full (n : Nat) (f g : Nat → Int) : inpl n n f g = tab n f := tab_ext fun k hk => by simp [hk]

/-! ### AddMass -/
def massL (p : Int) (l : List Int) (c w : Int) : List Int := tab l.length fun k => (rdI l k + w * (c ^ k % p)) % p
def massM (p : Int) (l : List Int) (c w : Int) : Int × List Int × Int :=
  if momB p l then (if hasB p c && hasB p w then (p, massL p l c w, 0) else (0, [], 2)) else (0, [], 1)
theorem massM_len (p : Int) (l : List Int) (c w : Int) (hl : l.length ≤ 1048576) : (massM p l c w).2.1.length ≤ 1048576 := by
  unfold massM; (repeat' split) <;> simp [massL, tab_len] <;> omega

end Go.Proofs.Ytabnganndcmcnaa.Ev
