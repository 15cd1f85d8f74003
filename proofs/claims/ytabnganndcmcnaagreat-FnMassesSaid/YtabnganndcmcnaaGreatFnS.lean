/- Powers; DivideMoments and AddMass. Conditions: none. -/
import Derived.Test.YtabnganndcmcnaaGreatFnR
set_option linter.unusedSimpArgs false
set_option linter.unusedVariables false
namespace Go.Proofs.YtabnganndcmcnaaGreat.Ev
open Go Go.Proofs
open List (map_replicate map_set map_append map_reverse map_take map_drop map_tail any_map all_map mapM_map map_map)
set_option maxRecDepth 4000
set_option maxHeartbeats 4000000

/-! ### Powers -/
theorem pow_mod_congr {p a b : Int} (h : a % p = b % p) : ∀ n : Nat, a ^ n % p = b ^ n % p
  | 0 => by rw [Int.pow_zero, Int.pow_zero]
  | n + 1 => by rw [Int.pow_succ, Int.pow_succ, Int.mul_emod, pow_mod_congr h n, h, ← Int.mul_emod]
theorem emod_emod' (a p : Int) : a % p % p = a % p := Int.emod_emod_of_dvd _ (Int.dvd_refl p)
theorem mul_mod_congr {p a b c d : Int} (h : a % p = b % p) (k : c % p = d % p) : a * c % p = b * d % p := by rw [Int.mul_emod, h, k, ← Int.mul_emod]
theorem add_mod_congr {p a b c d : Int} (h : a % p = b % p) (k : c % p = d % p) : (a + c) % p = (b + d) % p := by rw [Int.add_emod, h, k, ← Int.add_emod]
theorem sq_pow (x : Int) (m : Nat) : (x * x) ^ m = x ^ (2 * m) := by
  rw [Int.pow_mul]; congr 1; rw [show (2 : Nat) = 1 + 1 from rfl, Int.pow_succ, Int.pow_succ]; simp
theorem pow_even (p o x : Int) (m : Nat) : o * (x * x % p) ^ m % p = o * x ^ (2 * m) % p := by
  rw [← sq_pow]; exact mul_mod_congr rfl (pow_mod_congr (emod_emod' _ _) m)
theorem pow_odd (p o x : Int) (m : Nat) : (o * x % p) * (x * x % p) ^ m % p = o * x ^ (2 * m + 1) % p := by
  rw [pow_even, Int.pow_succ, Int.mul_comm (x ^ (2 * m)), ← Int.mul_assoc]
  exact mul_mod_congr (emod_emod' _ _) rfl

theorem run_power (p x : Int) (n : Nat) (hp : 2 ≤ p ∧ p ≤ 10007) (hx : 0 ≤ x ∧ x < p) (hn : n ≤ 9223372036854775807) :
    runv E0 86 [.int .i64 p, .int .i64 x, .int .i64 (n : Int)] = some ⟨true, .int .i64 (x ^ n % p), [.undef, .undef, .undef]⟩ := by
  have cdk : codeOk Tryz.f86.ntmps (Tryz.f86.body.getD .skip) = true := by kernel_rfl
  refine run_of_WL (fn := Tryz.f86) rfl Tryz.func86 rfl ⟨by simp [Tryz.ntmps86], by simp [wideA, ints], cdk, by simp [Tryz.f86]⟩ ?_
  have h1 := run_mod p 1 hp
  rw [Int.emod_eq_of_lt (by omega) (by omega)] at h1
  simp [go_sem, -map_replicate, -map_set, -map_append, -map_reverse, -map_take, -map_drop, -map_tail, -any_map, -all_map, -mapM_map, -map_map, slL, szI, ldI, zI, undL, apL, setI, rdI_get, Nat.add_one_le_iff, fillV, zeros1, zeros0, appendD, segV, lvO, goneOf, sliceD, bound, Nat.add_assoc, h1]
  rw [WL_loop]
  refine WL_rounds (I := fun j st => ∃ (y o : Int), st.fr 0 = .int .i64 p ∧ st.fr 1 = .int .i64 y ∧ st.fr 2 = .int .i64 j ∧ st.fr 7 = .int .i64 o ∧ 0 ≤ y ∧ y < p ∧ 0 ≤ o ∧ o < p ∧ o * y ^ j % p = x ^ n % p ∧ j ≤ n) ?_ n _ ?_
  · rintro j st ⟨y, o, he0, he1, he2, he3, he4, he5, he6, he7, he8, he9⟩ next
    have hy := mul_small hp (show 0 ≤ y ∧ y < p by omega) (show 0 ≤ y ∧ y < p by omega)
    have ho := mul_small hp (show 0 ≤ o ∧ o < p by omega) (show 0 ≤ y ∧ y < p by omega)
    have m1 := run_mul p y y hp (IntWalk.i64_in _ (by omega))
    have m2 := run_mul p o y hp (IntWalk.i64_in _ (by omega))
    have q1 := mod_small hp (y * y)
    have q2 := mod_small hp (o * y)
    have w1 : IntKind.i64.wrap ((j : Int) / 2) = ((j / 2 : Nat) : Int) := by rw [IntWalk.i64_in _ (by omega)]; omega
    have d1 : (j : Int).tdiv 2 = (j : Int) / 2 := Int.tdiv_eq_ediv_of_nonneg (by omega)
    have d2 : (j : Int).tmod 2 = (j : Int) % 2 := Int.tmod_eq_emod_of_nonneg (by omega)
    by_cases hj : 0 < j
    · by_cases hodd : j % 2 = 1
      · have hodd' : (j : Int) % 2 = 1 := by omega
        simp [go_sem, -map_replicate, -map_set, -map_append, -map_reverse, -map_take, -map_drop, -map_tail, -any_map, -all_map, -mapM_map, -map_map, slL, szI, ldI, zI, undL, apL, setI, rdI_get, Nat.add_one_le_iff, fillV, zeros1, zeros0, appendD, segV, lvO, goneOf, sliceD, bound, Nat.add_assoc, he0, he1, he2, he3, hj, d1, d2, hodd', m1, m2, w1]
        refine next (j / 2) _ (by omega) ⟨y * y % p, o * y % p, ?_⟩
        simp [upd, he0, he1, he2, he3, q1, q2]
        refine ⟨?_, by omega⟩
        rw [pow_odd, show 2 * (j / 2) + 1 = j by omega]
        exact he8
      · have hodd' : ¬ (j : Int) % 2 = 1 := by omega
        simp [go_sem, -map_replicate, -map_set, -map_append, -map_reverse, -map_take, -map_drop, -map_tail, -any_map, -all_map, -mapM_map, -map_map, slL, szI, ldI, zI, undL, apL, setI, rdI_get, Nat.add_one_le_iff, fillV, zeros1, zeros0, appendD, segV, lvO, goneOf, sliceD, bound, Nat.add_assoc, he0, he1, he2, he3, hj, d1, d2, hodd', m1, m2, w1]
        refine next (j / 2) _ (by omega) ⟨y * y % p, o, ?_⟩
        simp [upd, he0, he1, he2, he3, q1, he6, he7]
        refine ⟨?_, by omega⟩
        rw [pow_even, show 2 * (j / 2) = j by omega]
        exact he8
    · have : j = 0 := by omega
      subst this
      have ho' : o = x ^ n % p := by rw [← he8, Int.pow_zero, Int.mul_one, Int.emod_eq_of_lt he6 he7]
      simp [go_sem, -map_replicate, -map_set, -map_append, -map_reverse, -map_take, -map_drop, -map_tail, -any_map, -all_map, -mapM_map, -map_map, slL, szI, ldI, zI, undL, apL, setI, rdI_get, Nat.add_one_le_iff, fillV, zeros1, zeros0, appendD, segV, lvO, goneOf, sliceD, bound, Nat.add_assoc, he0, he1, he2, he3]
      simp [mvcgen_simp, -map_replicate, -map_set, -map_append, -map_reverse, -map_take, -map_drop, -map_tail, -any_map, -all_map, -mapM_map, -map_map, Tryz.f86, ho']
  · refine ⟨x, 1, rfl, rfl, rfl, rfl, hx.1, hx.2, by omega, by omega, by rw [Int.one_mul], Nat.le_refl _⟩

/-! ### A list that is written over -/
def inpl (n i : Nat) (f g : Nat → Int) : List Int := tab n fun k => if k < i then f k else g k
theorem inpl_len (n i : Nat) (f g : Nat → Int) : (inpl n i f g).length = n := tab_len _ _
theorem inpl_rd {n i : Nat} {f g : Nat → Int} (h : i < n) : rdI (inpl n i f g) i = g i := by
  unfold inpl; rw [tab_rd h]; simp
theorem inpl_set (n i : Nat) (f g : Nat → Int) : (inpl n i f g).set i (f i) = inpl n (i + 1) f g := by
  unfold inpl
  rw [tab_set]
  apply tab_ext
  intro k hk
  by_cases h : i = k
  · subst h; simp
  · have : (k < i + 1) ↔ (k < i) := by omega
    simp [h, this]
theorem inpl_zero (n : Nat) (f g : Nat → Int) : inpl n 0 f g = tab n g := tab_ext fun k hk => by simp
theorem inpl_full (n : Nat) (f g : Nat → Int) : inpl n n f g = tab n f := tab_ext fun k hk => by simp [hk]

/-! ### AddMass -/
theorem run_AddMass1 (p c w : Int) (l : List Int) : runv E0 85 [.ref [.int .i64 p, (V.list (List.length (l)) (List.map (V.int .i64) (l)))] 0, .ref [.int .i64 c] 0, .ref [.int .i64 w] 0] = some ⟨true, .bool (hasB p c && hasB p w), [.undef, .undef, .undef]⟩ := by
  have cdk : codeOk Tryz.f85.ntmps (Tryz.f85.body.getD .skip) = true := by kernel_rfl
  refine run_of_WL (fn := Tryz.f85) rfl Tryz.func85 rfl ⟨by simp [Tryz.ntmps85], by simp [wideA, ints], cdk, by simp [Tryz.f85]⟩ ?_
  cases e : hasB p c <;> simp [go_sem, -map_replicate, -map_set, -map_append, -map_reverse, -map_take, -map_drop, -map_tail, -any_map, -all_map, -mapM_map, -map_map, slL, szI, ldI, zI, undL, apL, setI, rdI_get, Nat.add_one_le_iff, fillV, zeros1, zeros0, appendD, segV, lvO, goneOf, sliceD, bound, Nat.add_assoc, szL, ldL, setCs0, setCs1, setCs2, setCsA2, setCsA3, ldM, fM0, fM1, szM, zM, plM0, plM1, agM, paM, ldJ, fJ0, fJ1, fJ2, szJ, zJ, plJ0, plJ1, plJ2, agJ, paJ, run_Mfield, run_has, e] <;> (refine ⟨by kernel_rfl, by kernel_rfl, ?_⟩) <;> simp [mvcgen_simp, -map_replicate, -map_set, -map_append, -map_reverse, -map_take, -map_drop, -map_tail, -any_map, -all_map, -mapM_map, -map_map, Tryz.f85, e]

def massL (p : Int) (l : List Int) (c w : Int) : List Int := tab l.length fun k => (rdI l k + w * (c ^ k % p)) % p
def massM (p : Int) (l : List Int) (c w : Int) : Int × List Int × Int :=
  if momB p l then (if hasB p c && hasB p w then (p, massL p l c w, 0) else (0, [], 2)) else (0, [], 1)
theorem massM_len (p : Int) (l : List Int) (c w : Int) (hl : l.length ≤ 1048576) : (massM p l c w).2.1.length ≤ 1048576 := by
  unfold massM; (repeat' split) <;> simp [massL, tab_len] <;> omega

theorem run_implAddMass (p : Int) (l : List Int) (c w : Int) (hl : l.length ≤ 1048576) :
    runv E0 13 [(V.agg [V.int .i64 (p), (V.list (List.length (l)) (List.map (V.int .i64) (l)))]), .int .i64 c, .int .i64 w] = some ⟨true, .tup [(V.agg [V.int .i64 ((massM p l c w).1), (V.uniq 1 (List.length ((massM p l c w).2.1)) (List.map (V.int .i64) ((massM p l c w).2.1)))]), .int .i64 (massM p l c w).2.2], [.agg [.undef, .undef], .undef, .undef]⟩ := by
  have cdk : codeOk Tryz.f13.ntmps (Tryz.f13.body.getD .skip) = true := by kernel_rfl
  refine run_of_WL (fn := Tryz.f13) rfl Tryz.func13 rfl ⟨by simp [Tryz.ntmps13], by simp [wideA, ints], cdk, by simp [Tryz.f13]⟩ ?_
  have h1 := run_mcode0 p l 85 [] [.ref [.int .i64 p, (V.list (List.length (l)) (List.map (V.int .i64) (l)))] 0, .ref [.int .i64 c] 0, .ref [.int .i64 w] 0] (hasB p c && hasB p w) (by omega) (fv_ref3 _ _ _ _ _ _) (fun H b => by
    have := run_AddMass1 p c w l
    simp [modesOf, callD, prepL, prepA, purN, idsN, depth, this, nodupB, flatO, noTup, backW, widthOk, wideA, adopt, adoptA, adoptC, treeN])
  cases e : momB p l with
  | false =>
    rw [e] at h1
    simp [go_sem, -map_replicate, -map_set, -map_append, -map_reverse, -map_take, -map_drop, -map_tail, -any_map, -all_map, -mapM_map, -map_map, slL, szI, ldI, zI, undL, apL, setI, rdI_get, Nat.add_one_le_iff, fillV, zeros1, zeros0, appendD, segV, lvO, goneOf, sliceD, bound, Nat.add_assoc, szL, ldL, setCs0, setCs1, setCs2, setCsA2, setCsA3, ldM, fM0, fM1, szM, zM, plM0, plM1, agM, paM, ldJ, fJ0, fJ1, fJ2, szJ, zJ, plJ0, plJ1, plJ2, agJ, paJ, h1, fillV]
    simp [mvcgen_simp, -map_replicate, -map_set, -map_append, -map_reverse, -map_take, -map_drop, -map_tail, -any_map, -all_map, -mapM_map, -map_map, Tryz.f13, massM, e, szL, ldL, setCs0, setCs1, setCs2, setCsA2, setCsA3, ldM, fM0, fM1, szM, zM, plM0, plM1, agM, paM, ldJ, fJ0, fJ1, fJ2, szJ, zJ, plJ0, plJ1, plJ2, agJ, paJ, ctM, loadD, viewN]
  | true =>
    rw [e] at h1
    cases e2 : (hasB p c && hasB p w) with
    | false =>
      rw [e2] at h1
      simp [go_sem, -map_replicate, -map_set, -map_append, -map_reverse, -map_take, -map_drop, -map_tail, -any_map, -all_map, -mapM_map, -map_map, slL, szI, ldI, zI, undL, apL, setI, rdI_get, Nat.add_one_le_iff, fillV, zeros1, zeros0, appendD, segV, lvO, goneOf, sliceD, bound, Nat.add_assoc, szL, ldL, setCs0, setCs1, setCs2, setCsA2, setCsA3, ldM, fM0, fM1, szM, zM, plM0, plM1, agM, paM, ldJ, fJ0, fJ1, fJ2, szJ, zJ, plJ0, plJ1, plJ2, agJ, paJ, h1, fillV]
      simp [mvcgen_simp, -map_replicate, -map_set, -map_append, -map_reverse, -map_take, -map_drop, -map_tail, -any_map, -all_map, -mapM_map, -map_map, Tryz.f13, massM, e, e2, szL, ldL, setCs0, setCs1, setCs2, setCsA2, setCsA3, ldM, fM0, fM1, szM, zM, plM0, plM1, agM, paM, ldJ, fJ0, fJ1, fJ2, szJ, zJ, plJ0, plJ1, plJ2, agJ, paJ, ctM, loadD, viewN]
    | true =>
      rw [e2] at h1
      have hll := momB_len e
      have hp := momB_prime e
      have e2' := e2
      rw [Bool.and_eq_true] at e2'
      have hc := hasB_range e2'.1
      have hw := hasB_range e2'.2
      have hwi := run_with p l l (by omega) (by omega)
      simp [go_sem, -map_replicate, -map_set, -map_append, -map_reverse, -map_take, -map_drop, -map_tail, -any_map, -all_map, -mapM_map, -map_map, slL, szI, ldI, zI, undL, apL, setI, rdI_get, Nat.add_one_le_iff, fillV, zeros1, zeros0, appendD, segV, lvO, goneOf, sliceD, bound, Nat.add_assoc, szL, ldL, setCs0, setCs1, setCs2, setCsA2, setCsA3, ldM, fM0, fM1, szM, zM, plM0, plM1, agM, paM, ldJ, fJ0, fJ1, fJ2, szJ, zJ, plJ0, plJ1, plJ2, agJ, paJ, h1, fillV, hwi]
      rw [WL_loop]
      refine WL_count (I := fun i st => st.fr 3 = .ptr 24 0 0 ∧ st.fr 4 = .ptr 88 0 0 ∧ st.fr 5 = .ptr 152 0 0 ∧ st.fr 6 = .ptr 216 0 0 ∧ st.fr 9 = .ptr 984 0 0 ∧ st.fr 24 = .int .i64 l.length ∧ st.fr 25 = .int .i64 i ∧ st.H 24 = some (⟨0, 1, 1, [.int .i64 p, (V.list (List.length (l)) (List.map (V.int .i64) (l)))]⟩) ∧ st.H 88 = some (⟨0, 1, 1, [.int .i64 c]⟩) ∧ st.H 152 = some (⟨0, 1, 1, [.int .i64 w]⟩) ∧ st.H 216 = some (⟨0, 1, 1, [.int .i64 0, .nils]⟩) ∧ st.H 984 = some (⟨0, 1, 1, [.int .i64 p, .sl 921 0 0 l.length]⟩) ∧ st.H 921 = some (⟨0, 2, 1, (inpl l.length i (fun k => (rdI l k + w * (c ^ k % p)) % p) (rdI l)).map (V.int .i64)⟩) ∧ 984 < st.nx) l.length ?_ ?_ 0 _ (by omega) ?_
      · rintro i st hi ⟨he0, he1, he2, he3, he4, he5, he6, he7, he8, he9, he10, he11, he12, he13⟩ next
        have tl := inpl_len l.length i (fun k => (rdI l k + w * (c ^ k % p)) % p) (rdI l)
        have tr := inpl_rd (f := fun k => (rdI l k + w * (c ^ k % p)) % p) (g := rdI l) hi
        have ts : (inpl l.length i (fun k => (rdI l k + w * (c ^ k % p)) % p) (rdI l)).set i ((rdI l i + w * (c ^ i % p)) % p) = inpl l.length (i + 1) (fun k => (rdI l k + w * (c ^ k % p)) % p) (rdI l) := inpl_set l.length i (fun k => (rdI l k + w * (c ^ k % p)) % p) (rdI l)
        have r1 := momB_rd e hi
        have r2 := mod_small hp (c ^ i)
        have hm := mul_small hp hw r2
        have hpow := run_power p c i hp hc (by omega)
        have w1 : IntKind.i64.wrap (w * (c ^ i % p)) = w * (c ^ i % p) := IntWalk.i64_in _ (by omega)
        have w2 : IntKind.i64.wrap (rdI l i + w * (c ^ i % p)) = rdI l i + w * (c ^ i % p) := IntWalk.i64_in _ (by omega)
        have w3 : IntKind.i64.wrap ((i : Int) + 1) = (i : Int) + 1 := IntWalk.i64_in _ (by omega)
        have w4 : IntKind.i64.wrap (i : Int) = (i : Int) := IntWalk.i64_in _ (by omega)
        have hmod := run_mod p (rdI l i + w * (c ^ i % p)) hp
        generalize inpl l.length i (fun k => (rdI l k + w * (c ^ k % p)) % p) (rdI l) = A at *
        generalize c ^ i % p = x at *
        simp [go_sem, -map_replicate, -map_set, -map_append, -map_reverse, -map_take, -map_drop, -map_tail, -any_map, -all_map, -mapM_map, -map_map, slL, szI, ldI, zI, undL, apL, setI, rdI_get, Nat.add_one_le_iff, fillV, zeros1, zeros0, appendD, segV, lvO, goneOf, sliceD, bound, Nat.add_assoc, szL, ldL, setCs0, setCs1, setCs2, setCsA2, setCsA3, ldM, fM0, fM1, szM, zM, plM0, plM1, agM, paM, ldJ, fJ0, fJ1, fJ2, szJ, zJ, plJ0, plJ1, plJ2, agJ, paJ, he0, he1, he2, he3, he4, he5, he6, he7, he8, he9, he10, he11, he12, hi, tl, tr, w1, w2, w3, w4, run_Mfield, hmod, hpow, convD, undI64]
        refine ⟨by kernel_rfl, by kernel_rfl, next _ ?_⟩
        simp [upd, row, -map_replicate, -map_set, -map_append, -map_reverse, -map_take, -map_drop, -map_tail, -map_map, he0, he1, he2, he3, he4, he5, he6, he7, he8, he9, he10, he11, he12, ts]
      · rintro st ⟨he0, he1, he2, he3, he4, he5, he6, he7, he8, he9, he10, he11, he12, he13⟩
        have tl := inpl_len l.length l.length (fun k => (rdI l k + w * (c ^ k % p)) % p) (rdI l)
        have te : inpl l.length l.length (fun k => (rdI l k + w * (c ^ k % p)) % p) (rdI l) = massL p l c w := inpl_full _ _ _
        rw [te] at he12 tl
        simp [go_sem, -map_replicate, -map_set, -map_append, -map_reverse, -map_take, -map_drop, -map_tail, -any_map, -all_map, -mapM_map, -map_map, slL, szI, ldI, zI, undL, apL, setI, rdI_get, Nat.add_one_le_iff, fillV, zeros1, zeros0, appendD, segV, lvO, goneOf, sliceD, bound, Nat.add_assoc, szL, ldL, setCs0, setCs1, setCs2, setCsA2, setCsA3, ldM, fM0, fM1, szM, zM, plM0, plM1, agM, paM, ldJ, fJ0, fJ1, fJ2, szJ, zJ, plJ0, plJ1, plJ2, agJ, paJ, he0, he1, he2, he3, he4, he5, he6, he7, he8, he9, he10, he11, he12]
        simp [mvcgen_simp, -map_replicate, -map_set, -map_append, -map_reverse, -map_take, -map_drop, -map_tail, -any_map, -all_map, -mapM_map, -map_map, Tryz.f13, massM, e, e2, tl, he0, he1, he2, he3, he4, he5, he6, he7, he8, he9, he10, he11, he12, szL, ldL, setCs0, setCs1, setCs2, setCsA2, setCsA3, ldM, fM0, fM1, szM, zM, plM0, plM1, agM, paM, ldJ, fJ0, fJ1, fJ2, szJ, zJ, plJ0, plJ1, plJ2, agJ, paJ, ctM, loadD, viewN]
      · refine ⟨rfl, rfl, rfl, rfl, rfl, rfl, rfl, rfl, rfl, rfl, rfl, rfl, ?_, by simp⟩
        rw [inpl_zero, tab_self]
        rfl

theorem run_specAddMass (p : Int) (l : List Int) (c w : Int) (hl : l.length ≤ 1048576) :
    runv E0 14 [(V.agg [V.int .i64 (p), (V.list (List.length (l)) (List.map (V.int .i64) (l)))]), .int .i64 c, .int .i64 w] = some ⟨true, .tup [(V.agg [V.int .i64 ((massM p l c w).1), (V.uniq 1 (List.length ((massM p l c w).2.1)) (List.map (V.int .i64) ((massM p l c w).2.1)))]), .int .i64 (massM p l c w).2.2], [.agg [.undef, .undef], .undef, .undef]⟩ := by
  have cdk : codeOk Tryz.f14.ntmps (Tryz.f14.body.getD .skip) = true := by kernel_rfl
  refine run_of_WL (fn := Tryz.f14) rfl Tryz.func14 rfl ⟨by simp [Tryz.ntmps14], by simp [wideA, ints], cdk, by simp [Tryz.f14]⟩ ?_
  have h1 := run_l08Number2 p l c w (by omega)
  have z2 : zerosV 2 [V.int .i64 0] = [.int .i64 0, .int .i64 0] := rfl
  cases e : momB p l with
  | false =>
    rw [e] at h1
    simp [go_sem, -map_replicate, -map_set, -map_append, -map_reverse, -map_take, -map_drop, -map_tail, -any_map, -all_map, -mapM_map, -map_map, slL, szI, ldI, zI, undL, apL, setI, rdI_get, Nat.add_one_le_iff, fillV, zeros1, zeros0, appendD, segV, lvO, goneOf, sliceD, bound, Nat.add_assoc, szL, ldL, setCs0, setCs1, setCs2, setCsA2, setCsA3, ldM, fM0, fM1, szM, zM, plM0, plM1, agM, paM, ldJ, fJ0, fJ1, fJ2, szJ, zJ, plJ0, plJ1, plJ2, agJ, paJ, h1, fillV, z2]
    simp [mvcgen_simp, -map_replicate, -map_set, -map_append, -map_reverse, -map_take, -map_drop, -map_tail, -any_map, -all_map, -mapM_map, -map_map, Tryz.f14, massM, e, szL, ldL, setCs0, setCs1, setCs2, setCsA2, setCsA3, ldM, fM0, fM1, szM, zM, plM0, plM1, agM, paM, ldJ, fJ0, fJ1, fJ2, szJ, zJ, plJ0, plJ1, plJ2, agJ, paJ, ctM, loadD, viewN]
  | true =>
    rw [e] at h1
    cases e2 : (hasB p c && hasB p w) with
    | false =>
      rw [e2] at h1
      simp [go_sem, -map_replicate, -map_set, -map_append, -map_reverse, -map_take, -map_drop, -map_tail, -any_map, -all_map, -mapM_map, -map_map, slL, szI, ldI, zI, undL, apL, setI, rdI_get, Nat.add_one_le_iff, fillV, zeros1, zeros0, appendD, segV, lvO, goneOf, sliceD, bound, Nat.add_assoc, szL, ldL, setCs0, setCs1, setCs2, setCsA2, setCsA3, ldM, fM0, fM1, szM, zM, plM0, plM1, agM, paM, ldJ, fJ0, fJ1, fJ2, szJ, zJ, plJ0, plJ1, plJ2, agJ, paJ, h1, fillV, z2]
      simp [mvcgen_simp, -map_replicate, -map_set, -map_append, -map_reverse, -map_take, -map_drop, -map_tail, -any_map, -all_map, -mapM_map, -map_map, Tryz.f14, massM, e, e2, szL, ldL, setCs0, setCs1, setCs2, setCsA2, setCsA3, ldM, fM0, fM1, szM, zM, plM0, plM1, agM, paM, ldJ, fJ0, fJ1, fJ2, szJ, zJ, plJ0, plJ1, plJ2, agJ, paJ, ctM, loadD, viewN]
    | true =>
      rw [e2] at h1
      have hll := momB_len e
      have hp := momB_prime e
      have e2' := e2
      rw [Bool.and_eq_true] at e2'
      have hc := hasB_range e2'.1
      have hw := hasB_range e2'.2
      simp [go_sem, -map_replicate, -map_set, -map_append, -map_reverse, -map_take, -map_drop, -map_tail, -any_map, -all_map, -mapM_map, -map_map, slL, szI, ldI, zI, undL, apL, setI, rdI_get, Nat.add_one_le_iff, fillV, zeros1, zeros0, appendD, segV, lvO, goneOf, sliceD, bound, Nat.add_assoc, szL, ldL, setCs0, setCs1, setCs2, setCsA2, setCsA3, ldM, fM0, fM1, szM, zM, plM0, plM1, agM, paM, ldJ, fJ0, fJ1, fJ2, szJ, zJ, plJ0, plJ1, plJ2, agJ, paJ, h1, fillV, z2]
      rw [WL_loop]
      refine WL_count (I := fun i st => ∃ v, st.fr 1 = .int .i64 c ∧ st.fr 3 = .ptr 24 0 0 ∧ st.fr 6 = .ptr 88 0 0 ∧ st.fr 9 = .ptr 1048 0 0 ∧ st.fr 10 = .int .i64 (w * c ^ i % p) ∧ st.fr 11 = .int .i64 i ∧ st.H 24 = some (⟨0, 1, 1, [.int .i64 p, (V.list (List.length (l)) (List.map (V.int .i64) (l)))]⟩) ∧ st.H 88 = some (⟨0, 1, 1, [.int .i64 0, .nils]⟩) ∧ st.H 1048 = some (⟨0, 1, 1, [.int .i64 p, v]⟩) ∧ 1048 < st.nx ∧ GV .i64 1048 st v (tab i (fun k => (rdI l k + w * (c ^ k % p)) % p))) l.length ?_ ?_ 0 _ (by omega) ?_
      · rintro i st hi ⟨v, he0, he1, he2, he3, he4, he5, he6, he7, he8, he9, he10⟩ next
        have tl := tab_len i (fun k => (rdI l k + w * (c ^ k % p)) % p)
        have ts : tab (i + 1) (fun k => (rdI l k + w * (c ^ k % p)) % p) = tab i (fun k => (rdI l k + w * (c ^ k % p)) % p) ++ [(rdI l i + w * (c ^ i % p)) % p] := tab_succ _ _
        have r1 := momB_rd e hi
        have r2 := mod_small hp (w * c ^ i)
        have hm := mul_small hp r2 hc
        have hx : (rdI l i + w * c ^ i % p).tmod p = (rdI l i + w * (c ^ i % p)) % p := by
          rw [Int.tmod_eq_emod_of_nonneg (by omega)]
          refine add_mod_congr rfl ?_
          rw [emod_emod']
          exact mul_mod_congr rfl (emod_emod' _ _).symm
        have hy : (w * c ^ i % p * c).tmod p = w * c ^ (i + 1) % p := by
          rw [Int.tmod_eq_emod_of_nonneg hm.1, Int.pow_succ, ← Int.mul_assoc]
          exact mul_mod_congr (emod_emod' _ _) rfl
        have w1 : IntKind.i64.wrap (w * c ^ i % p * c) = w * c ^ i % p * c := IntWalk.i64_in _ (by omega)
        have w2 : IntKind.i64.wrap (rdI l i + w * c ^ i % p) = rdI l i + w * c ^ i % p := IntWalk.i64_in _ (by omega)
        have w3 : IntKind.i64.wrap ((i : Int) + 1) = (i : Int) + 1 := IntWalk.i64_in _ (by omega)
        have hpn : ¬ p = 0 := by omega
        have c3 : (i + 1) * 8 ≤ 140737488355328 := by omega
        have fin : ∀ (st' : St) (v' : V), st'.fr 1 = .int .i64 c → st'.fr 3 = .ptr 24 0 0 → st'.fr 6 = .ptr 88 0 0 → st'.fr 9 = .ptr 1048 0 0 → st'.fr 10 = .int .i64 (w * c ^ (i + 1) % p) → st'.fr 11 = .int .i64 ((i : Int) + 1) → st'.H 24 = some ⟨0, 1, 1, [.int .i64 p, (V.list (List.length (l)) (List.map (V.int .i64) (l)))]⟩ → st'.H 88 = some ⟨0, 1, 1, [.int .i64 0, .nils]⟩ → st'.H 1048 = some ⟨0, 1, 1, [.int .i64 p, v']⟩ → 1048 < st'.nx → GV .i64 1048 st' v' (tab i (fun k => (rdI l k + w * (c ^ k % p)) % p) ++ [(rdI l i + w * (c ^ i % p)) % p]) → WL E0 false _ _ st' := fun st' v' a1 a2 a3 a4 a5 a6 a7 a8 a9 a10 a11 =>
          next st' ⟨v', a1, a2, a3, a4, a5, by rw [a6]; simp, a7, a8, a9, a10, by rw [ts]; exact a11⟩
        have n1 := ne_new he9
        have n2 := ne_new (show 88 < st.nx by omega)
        have n3 := ne_new (show 24 < st.nx by omega)
        generalize tab i (fun k => (rdI l k + w * (c ^ k % p)) % p) = A at *
        generalize w * c ^ i % p = pw at *
        generalize w * c ^ (i + 1) % p = pw2 at *
        generalize (rdI l i + w * (c ^ i % p)) % p = x at *
        rcases he10 with ⟨rfl, rfl⟩ | ⟨id, ver, rfl, hH, hxx, hlo⟩
        · simp [go_sem, -map_replicate, -map_set, -map_append, -map_reverse, -map_take, -map_drop, -map_tail, -any_map, -all_map, -mapM_map, -map_map, slL, szI, ldI, zI, undL, apL, setI, rdI_get, Nat.add_one_le_iff, fillV, zeros1, zeros0, appendD, segV, lvO, goneOf, sliceD, bound, Nat.add_assoc, szL, ldL, setCs0, setCs1, setCs2, setCsA2, setCsA3, ldM, fM0, fM1, szM, zM, plM0, plM1, agM, paM, ldJ, fJ0, fJ1, fJ2, szJ, zJ, plJ0, plJ1, plJ2, agJ, paJ, he0, he1, he2, he3, he4, he5, he6, he7, he8, hi, w1, w2, w3, hx, hy, hpn]
          refine ⟨by kernel_rfl, by kernel_rfl, ?_⟩
          exact fin _ _ (by simp [upd, he0]) (by simp [upd, he1]) (by simp [upd, he2]) (by simp [upd, he3]) (by simp [upd]) (by simp [upd]) (by simp [upd, he6, n3]) (by simp [upd, he7, n2]) rfl (by simp <;> omega) (GV.own _ rfl (by simp) (by simp [upd] <;> omega) (by simp) (by simp <;> omega))
        · have q1 : ¬ id = 1048 := by omega
          have q2 : ¬ 1048 = id := by omega
          have q3 : ¬ 88 = id := by omega
          have q4 : ¬ 24 = id := by omega
          simp [go_sem, -map_replicate, -map_set, -map_append, -map_reverse, -map_take, -map_drop, -map_tail, -any_map, -all_map, -mapM_map, -map_map, slL, szI, ldI, zI, undL, apL, setI, rdI_get, Nat.add_one_le_iff, fillV, zeros1, zeros0, appendD, segV, lvO, goneOf, sliceD, bound, Nat.add_assoc, szL, ldL, setCs0, setCs1, setCs2, setCsA2, setCsA3, ldM, fM0, fM1, szM, zM, plM0, plM1, agM, paM, ldJ, fJ0, fJ1, fJ2, szJ, zJ, plJ0, plJ1, plJ2, agJ, paJ, he0, he1, he2, he3, he4, he5, he6, he7, he8, hi, w1, w2, w3, hx, hy, hpn, hH, tl, c3, q1, q2, q3, q4, ne_new hxx, new_ne hxx]
          refine ⟨by kernel_rfl, by kernel_rfl, ?_⟩
          exact fin _ _ (by simp [upd, he0]) (by simp [upd, he1]) (by simp [upd, he2]) (by simp [upd, he3]) (by simp [upd]) (by simp [upd]) (by simp [upd, he6, n3, q4]) (by simp [upd, he7, n2, q3]) rfl (by simp <;> omega) (GV.own _ rfl (by simp [tl]) (by simp [upd, q1]) (by simp <;> omega) hlo)
      · rintro st ⟨v, he0, he1, he2, he3, he4, he5, he6, he7, he8, he9, he10⟩
        have tl := tab_len l.length (fun k => (rdI l k + w * (c ^ k % p)) % p)
        have hne : tab l.length (fun k => (rdI l k + w * (c ^ k % p)) % p) ≠ [] := fun h => by rw [h] at tl; simp at tl; omega
        rcases he10 with ⟨h, _⟩ | ⟨id, ver, rfl, hH, hxx, hlo⟩
        · exact absurd h hne
        · have q3 : ¬ id = 88 := by omega
          simp [go_sem, -map_replicate, -map_set, -map_append, -map_reverse, -map_take, -map_drop, -map_tail, -any_map, -all_map, -mapM_map, -map_map, slL, szI, ldI, zI, undL, apL, setI, rdI_get, Nat.add_one_le_iff, fillV, zeros1, zeros0, appendD, segV, lvO, goneOf, sliceD, bound, Nat.add_assoc, szL, ldL, setCs0, setCs1, setCs2, setCsA2, setCsA3, ldM, fM0, fM1, szM, zM, plM0, plM1, agM, paM, ldJ, fJ0, fJ1, fJ2, szJ, zJ, plJ0, plJ1, plJ2, agJ, paJ, he0, he1, he2, he3, he4, he5, he6, he7, he8]
          simp [mvcgen_simp, -map_replicate, -map_set, -map_append, -map_reverse, -map_take, -map_drop, -map_tail, -any_map, -all_map, -mapM_map, -map_map, Tryz.f14, massM, massL, e, e2, he0, he1, he2, he3, he4, he5, he6, he7, he8, hH, q3, szL, ldL, setCs0, setCs1, setCs2, setCsA2, setCsA3, ldM, fM0, fM1, szM, zM, plM0, plM1, agM, paM, ldJ, fJ0, fJ1, fJ2, szJ, zJ, plJ0, plJ1, plJ2, agJ, paJ, ctM, loadD, viewN]
      · refine ⟨.nils, rfl, rfl, rfl, rfl, ?_, rfl, rfl, rfl, rfl, by simp, .inl ⟨rfl, rfl⟩⟩
        show V.int .i64 w = _
        rw [Int.pow_zero, Int.mul_one, Int.emod_eq_of_lt hw.1 hw.2]

end Go.Proofs.YtabnganndcmcnaaGreat.Ev
