/- NamedMoments: binomials, sums of products, lists reversed, Pascal's rows. Conditions: none. -/
/- NamedMoments: the names. Conditions: none. -/
/- NamedMoments: the reference's list. Conditions: none. -/
import Derived.Test.YtacfkfdnncgjcaaFnBA
import Derived.Test.YtacfkfdnncgjcaaFnI
set_option linter.unusedSimpArgs false
set_option linter.unusedVariables false
namespace Go.Proofs.Ytacfkfdnncgjcaa.Ev
open Go Go.Proofs
open List (map_replicate map_set map_append map_reverse map_take map_drop map_tail any_map all_map mapM_map map_map)
set_option maxRecDepth 4000
set_option maxHeartbeats 4000000

/-- How many ways there are to choose k of n things. -/
def chs : Nat → Nat → Nat
  | _, 0 => 1
  | 0, _ + 1 => 0
  | n + 1, k + 1 => chs n k + chs n (k + 1)
theorem chs_big : ∀ (n k : Nat), n < k → chs n k = 0
  | 0, k + 1, _ => rfl
  | n + 1, k + 1, h => by rw [chs, chs_big n k (by omega), chs_big n (k + 1) (by omega)]
theorem chs_zero (n : Nat) : chs n 0 = 1 := by cases n <;> rfl
theorem chs_self : ∀ (n : Nat), chs n n = 1
  | 0 => rfl
  | n + 1 => by rw [chs, chs_self n, chs_big n (n + 1) (by omega)]
theorem chs_le : ∀ (n k : Nat), chs n k ≤ 2 ^ n
  | n, 0 => by rw [chs_zero]; exact Nat.one_le_two_pow
  | 0, k + 1 => by simp [chs]
  | n + 1, k + 1 => by
    have h1 := chs_le n k
    have h2 := chs_le n (k + 1)
    rw [chs, Nat.pow_succ]; omega
theorem chs_absorb : ∀ (n i : Nat), chs n i * (n - i) = chs n (i + 1) * (i + 1)
  | 0, i => by simp [chs]
  | n + 1, 0 => by
    have h := chs_absorb n 0
    rw [chs_zero] at h
    rw [chs_zero, chs, chs_zero]; omega
  | n + 1, i + 1 => by
    have h1 := chs_absorb n i
    have h2 := chs_absorb n (i + 1)
    rw [chs, chs]
    by_cases c : i < n
    · have e1 : n + 1 - (i + 1) = n - i := by omega
      obtain ⟨d, hd⟩ : ∃ d, n - i = d + 1 := ⟨n - i - 1, by omega⟩
      have e2 : n - (i + 1) = d := by omega
      rw [e1, hd]
      rw [hd] at h1
      rw [e2] at h2
      rw [Nat.add_mul, h1, Nat.add_mul, ← h2, ← Nat.mul_add, ← Nat.mul_add]
      congr 1; omega
    · rw [show n + 1 - (i + 1) = 0 by omega, chs_big n (i + 1) (by omega), chs_big n (i + 1 + 1) (by omega)]; simp
theorem chs_next (n i : Nat) : chs n i * (n - i) / (i + 1) = chs n (i + 1) := by
  rw [chs_absorb]; exact Nat.mul_div_cancel _ (by omega)
/-- Pascal's rows modulo p. -/
def chP (p : Int) (n i : Nat) : Int := (chs n i : Int) % p
theorem chP_zero (p : Int) (n : Nat) : chP p n 0 = 1 % p := by unfold chP; rw [chs_zero]; rfl
theorem chP_self (p : Int) (n : Nat) : chP p n n = 1 % p := by unfold chP; rw [chs_self]; rfl
theorem chP_step (p : Int) (n i : Nat) : chP p (n + 1) (i + 1) = (chP p n i + chP p n (i + 1)) % p := by
  unfold chP
  rw [chs, Int.natCast_add, ← Int.add_emod]
/-- Sums of products, brought back modulo p after each step. -/
def dotK (p : Int) (a b : List Int) : Nat → Int
  | 0 => 0
  | i + 1 => (dotK p a b i + rdI a i * rdI b i) % p
theorem dotK_range {p : Int} (hp : 2 ≤ p ∧ p ≤ 10007) (a b : List Int) : ∀ i, 0 ≤ dotK p a b i ∧ dotK p a b i < p
  | 0 => by show (0 : Int) ≤ 0 ∧ (0 : Int) < p; omega
  | i + 1 => mod_small hp _

theorem rev_take (l : List Int) {x : Nat} (h : x < l.length) : l.reverse.take (x + 1) = l.reverse.take x ++ [rdI l (l.length - 1 - x)] := by
  rw [List.take_add_one, List.getElem?_eq_getElem (by simpa using h), List.getElem_reverse, rdI_get]; rfl
end Go.Proofs.Ytacfkfdnncgjcaa.Ev

set_option linter.unusedSimpArgs false
set_option linter.unusedVariables false
namespace Go.Proofs.Ytacfkfdnncgjcaa.Ev
open Go Go.Proofs
open List (map_replicate map_set map_append map_reverse map_take map_drop map_tail any_map all_map mapM_map map_map)
set_option maxRecDepth 4000
set_option maxHeartbeats 4000000

def mUni : List UInt8 := [117, 110, 105, 102, 111, 114, 109]
def mLag : List UInt8 := [108, 97, 103, 117, 101, 114, 114, 101]
def mHer : List UInt8 := [104, 101, 114, 109, 105, 116, 101]
def mCat : List UInt8 := [99, 97, 116, 97, 108, 97, 110]
def mPoi : List UInt8 := [112, 111, 105, 115, 115, 111, 110]
/-- Which name is it? -/
def mk (s : ByteArray) : Nat :=
  if s.toList == mUni then 1 else if s.toList == mLag then 2 else if s.toList == mHer then 3 else if s.toList == mCat then 4 else if s.toList == mPoi then 5 else 0
def MK (s : ByteArray) (n : Nat) : Prop :=
  (s.toList == mUni) = decide (n = 1) ∧ (s.toList == mLag) = decide (n = 2) ∧ (s.toList == mHer) = decide (n = 3) ∧ (s.toList == mCat) = decide (n = 4) ∧ (s.toList == mPoi) = decide (n = 5)
theorem mk_spec (s : ByteArray) : MK s (mk s) ∧ mk s ≤ 5 := by
  unfold MK mk
  by_cases h1 : (s.toList == mUni) = true
  · have e := eq_of_beq h1; rw [e]; decide +kernel
  by_cases h2 : (s.toList == mLag) = true
  · have e := eq_of_beq h2; rw [e]; decide +kernel
  by_cases h3 : (s.toList == mHer) = true
  · have e := eq_of_beq h3; rw [e]; decide +kernel
  by_cases h4 : (s.toList == mCat) = true
  · have e := eq_of_beq h4; rw [e]; decide +kernel
  by_cases h5 : (s.toList == mPoi) = true
  · have e := eq_of_beq h5; rw [e]; decide +kernel
  · simp only [Bool.not_eq_true] at h1 h2 h3 h4 h5
    simp [h1, h2, h3, h4, h5]
def namesV : List V := [.str ⟨#[117, 110, 105, 102, 111, 114, 109]⟩, .str ⟨#[108, 97, 103, 117, 101, 114, 114, 101]⟩, .str ⟨#[104, 101, 114, 109, 105, 116, 101]⟩, .str ⟨#[99, 97, 116, 97, 108, 97, 110]⟩, .str ⟨#[112, 111, 105, 115, 115, 111, 110]⟩]
theorem slStr : slT Try.prog 115 = some (9, 1, 16) := by kernel_rfl
theorem ldStr : ldT Try.prog 9 = some (false, 1) := by kernel_rfl
theorem szStr : szT Try.prog 9 = some 1 := by kernel_rfl
theorem undStrS : Try.prog.underlying 115 = some (.slice 9) := by kernel_rfl
theorem zStr : zeroT Try.prog 9 = some [.str ⟨#[]⟩] := by kernel_rfl
theorem run_IndexS (s : ByteArray) : runv E1 155 [.list 5 namesV, .str s] = some ⟨true, .int .i64 ((mk s : Int) - 1), [.undef, .undef]⟩ := by
  unfold namesV
  have cdk : codeOk Try.f155.ntmps (Try.f155.body.getD .skip) = true := by kernel_rfl
  refine run_of_WLr (fn := Try.f155) rfl Try.func155 rfl ⟨by simp [Try.ntmps155], by simp [wideA, ints], cdk, by simp [Try.f155]⟩ rfl (by simp [rebOk, noId, adoptT, adoptA, adoptL, adoptC, depth]) ?_
  obtain ⟨⟨e1, e2, e3, e4, e5⟩, hn⟩ := mk_spec s
  unfold mUni at e1; unfold mLag at e2; unfold mHer at e3; unfold mCat at e4; unfold mPoi at e5
  generalize mk s = n at *
  simp [go_sem, -map_replicate, -map_set, -map_append, -map_reverse, -map_take, -map_drop, -map_tail, -any_map, -all_map, -mapM_map, -map_map, slL, szI, ldI, zI, undL, apL, setI, rdI_get, Nat.add_one_le_iff, fillV, zeros1, zeros0, appendD, segV, lvO, goneOf, sliceD, bound, Nat.add_assoc, szL, ldL, setCs0, setCs1, setCs2, setCsA2, setCsA3, ldM, fM0, fM1, szM, zM, plM0, plM1, agM, paM, ldJ, fJ0, fJ1, fJ2, szJ, zJ, plJ0, plJ1, plJ2, agJ, paJ, undS, slStr, ldStr, undStrS]
  rw [WL_loop]
  refine WL_forP (keep := [0, 1, 7, 8]) (rs := resM Try.f155) rfl (by kernel_rfl) (fun i => mkSt [(0, .list 5 [.str ⟨#[117, 110, 105, 102, 111, 114, 109]⟩, .str ⟨#[108, 97, 103, 117, 101, 114, 114, 101]⟩, .str ⟨#[104, 101, 114, 109, 105, 116, 101]⟩, .str ⟨#[99, 97, 116, 97, 108, 97, 110]⟩, .str ⟨#[112, 111, 105, 115, 115, 111, 110]⟩]), (1, .str s), (7, .int .i64 5), (8, .int .i64 (i : Int))] [] (resM Try.f155)) 5 (fun i => n = 0 ∨ i < n) ?_ ?_ 0 _ (by omega) (by omega) rfl ?_
  · intro i hi hP next
    by_cases hm : n = i + 1
    · subst hm
      rcases i with _ | _ | _ | _ | _ | i
      all_goals first
        | (exfalso; omega)
        | (simp only [Nat.zero_add, Nat.reduceAdd] at e1 e2 e3 e4 e5 ⊢
           simp [go_sem, -map_replicate, -map_set, -map_append, -map_reverse, -map_take, -map_drop, -map_tail, -any_map, -all_map, -mapM_map, -map_map, slL, szI, ldI, zI, undL, apL, setI, rdI_get, Nat.add_one_le_iff, fillV, zeros1, zeros0, appendD, segV, lvO, goneOf, sliceD, bound, Nat.add_assoc, szL, ldL, setCs0, setCs1, setCs2, setCsA2, setCsA3, ldM, fM0, fM1, szM, zM, plM0, plM1, agM, paM, ldJ, fJ0, fJ1, fJ2, szJ, zJ, plJ0, plJ1, plJ2, agJ, paJ, undS, strOp, slStr, ldStr, undStrS, e1, e2, e3, e4, e5]
           try (repeat refine ⟨by kernel_rfl, by kernel_rfl, ?_⟩)
           simp [mvcgen_simp, -map_replicate, -map_set, -map_append, -map_reverse, -map_take, -map_drop, -map_tail, -any_map, -all_map, -mapM_map, -map_map, Try.f155])
    · have hP' : n = 0 ∨ i + 1 < n := by omega
      have z2 : IntKind.i64.wrap 2 = 2 := by decide +kernel
      have z3 : IntKind.i64.wrap 3 = 3 := by decide +kernel
      have z4 : IntKind.i64.wrap 4 = 4 := by decide +kernel
      have z5 : IntKind.i64.wrap 5 = 5 := by decide +kernel
      rcases i with _ | _ | _ | _ | _ | i
      all_goals first
        | (exfalso; omega)
        | (simp only [Nat.zero_add, Nat.reduceAdd] at hm next ⊢
           simp [go_sem, -map_replicate, -map_set, -map_append, -map_reverse, -map_take, -map_drop, -map_tail, -any_map, -all_map, -mapM_map, -map_map, slL, szI, ldI, zI, undL, apL, setI, rdI_get, Nat.add_one_le_iff, fillV, zeros1, zeros0, appendD, segV, lvO, goneOf, sliceD, bound, Nat.add_assoc, szL, ldL, setCs0, setCs1, setCs2, setCsA2, setCsA3, ldM, fM0, fM1, szM, zM, plM0, plM1, agM, paM, ldJ, fJ0, fJ1, fJ2, szJ, zJ, plJ0, plJ1, plJ2, agJ, paJ, undS, strOp, slStr, ldStr, undStrS, e1, e2, e3, e4, e5, hm, wz1]
           try (repeat refine ⟨by kernel_rfl, by kernel_rfl, ?_⟩)
           refine next _ hP' rfl ?_
           (refine canon_mk ?_; simp [method_specs_simp, ordIds_app, ordRen_app, ordIds_app2, ordRen_app2, -map_replicate, -map_set, -map_append, -map_reverse, -map_take, -map_drop, -map_tail, -map_map, z2, z3, z4, z5]))
  · intro hP
    have n0 : n = 0 := by omega
    subst n0
    simp [go_sem, -map_replicate, -map_set, -map_append, -map_reverse, -map_take, -map_drop, -map_tail, -any_map, -all_map, -mapM_map, -map_map, slL, szI, ldI, zI, undL, apL, setI, rdI_get, Nat.add_one_le_iff, fillV, zeros1, zeros0, appendD, segV, lvO, goneOf, sliceD, bound, Nat.add_assoc, szL, ldL, setCs0, setCs1, setCs2, setCsA2, setCsA3, ldM, fM0, fM1, szM, zM, plM0, plM1, agM, paM, ldJ, fJ0, fJ1, fJ2, szJ, zJ, plJ0, plJ1, plJ2, agJ, paJ, undS, slStr, ldStr, undStrS]
    simp [mvcgen_simp, -map_replicate, -map_set, -map_append, -map_reverse, -map_take, -map_drop, -map_tail, -any_map, -all_map, -mapM_map, -map_map, Try.f155]
  · (refine canon_mk ?_; simp [method_specs_simp, ordIds_app, ordRen_app, ordIds_app2, ordRen_app2, -map_replicate, -map_set, -map_append, -map_reverse, -map_take, -map_drop, -map_tail, -map_map])
theorem run_ContainsS (s : ByteArray) : runv E1 144 [.list 5 namesV, .str s] = some ⟨true, .bool (decide (¬ mk s = 0)), [.undef, .undef]⟩ := by
  have h := run_IndexS s
  unfold namesV at *
  have cdk : codeOk Try.f144.ntmps (Try.f144.body.getD .skip) = true := by kernel_rfl
  refine run_of_WLr (fn := Try.f144) rfl Try.func144 rfl ⟨by simp [Try.ntmps144], by simp [wideA, ints], cdk, by simp [Try.f144]⟩ rfl (by simp [rebOk, noId, adoptT, adoptA, adoptL, adoptC, depth]) ?_
  generalize mk s = n at *
  simp [go_sem, -map_replicate, -map_set, -map_append, -map_reverse, -map_take, -map_drop, -map_tail, -any_map, -all_map, -mapM_map, -map_map, slL, szI, ldI, zI, undL, apL, setI, rdI_get, Nat.add_one_le_iff, fillV, zeros1, zeros0, appendD, segV, lvO, goneOf, sliceD, bound, Nat.add_assoc, szL, ldL, setCs0, setCs1, setCs2, setCsA2, setCsA3, ldM, fM0, fM1, szM, zM, plM0, plM1, agM, paM, ldJ, fJ0, fJ1, fJ2, szJ, zJ, plJ0, plJ1, plJ2, agJ, paJ, undS, slStr, ldStr, undStrS, h]
  simp [mvcgen_simp, -map_replicate, -map_set, -map_append, -map_reverse, -map_take, -map_drop, -map_tail, -any_map, -all_map, -mapM_map, -map_map, Try.f144]
  rw [← decide_not, decide_eq_decide]; omega
end Go.Proofs.Ytacfkfdnncgjcaa.Ev

set_option linter.unusedSimpArgs false
set_option linter.unusedVariables false
namespace Go.Proofs.Ytacfkfdnncgjcaa.Ev
open Go Go.Proofs
open List (map_replicate map_set map_append map_reverse map_take map_drop map_tail any_map all_map mapM_map map_map)
set_option maxRecDepth 4000
set_option maxHeartbeats 4000000

/-- The moment number k of a name, from those before it. -/
def ownM (t : Nat) (p : Int) (L : List Int) (k : Nat) : Int :=
  if k = 0 then 1 else if t = 1 then invP p (((k : Int) + 1) % p) else if t = 2 then rdI L (k - 1) * (k : Int) % p
  else if t = 3 then (if k % 2 = 0 then rdI L (k - 2) * ((k : Int) - 1) % p else 0) else if t = 4 then dotK p L L.reverse k
  else if t = 5 then dotK p L (tab k (chP p (k - 1))) k else 0
def nmL (t : Nat) (p : Int) : Nat → List Int
  | 0 => []
  | k + 1 => nmL t p k ++ [ownM t p (nmL t p k) k]
theorem nmL_len (t : Nat) (p : Int) : ∀ k, (nmL t p k).length = k
  | 0 => rfl
  | k + 1 => by rw [nmL, List.length_append, nmL_len t p k]; rfl
theorem ownM_range {p : Int} (hp : 2 ≤ p ∧ p ≤ 10007) (t : Nat) (L : List Int) (k : Nat) : 0 ≤ ownM t p L k ∧ ownM t p L k < p := by
  unfold ownM
  (repeat' split) <;> first | exact mod_small hp _ | exact dotK_range hp _ _ _ | exact invP_range hp _ | omega
theorem nmL_mem {p : Int} (hp : 2 ≤ p ∧ p ≤ 10007) (t : Nat) : ∀ k x, x ∈ nmL t p k → 0 ≤ x ∧ x < p
  | 0, x, h => by cases h
  | k + 1, x, h => by
    rw [nmL] at h
    rcases List.mem_append.1 h with h | h
    · exact nmL_mem hp t k x h
    · rw [List.mem_singleton.1 h]; exact ownM_range hp ..
theorem rd_of_mem {p : Int} (hp : 2 ≤ p ∧ p ≤ 10007) {l : List Int} (h : ∀ x, x ∈ l → 0 ≤ x ∧ x < p) (i : Nat) : 0 ≤ rdI l i ∧ rdI l i < p := by
  by_cases c : i < l.length
  · rw [← rdI_get c]; exact h _ (List.getElem_mem c)
  · simp [rdI, List.getElem?_eq_none (by omega : l.length ≤ i)]; omega
theorem chP_mem {p : Int} (hp : 2 ≤ p ∧ p ≤ 10007) (k n : Nat) (x : Int) (h : x ∈ tab k (chP p n)) : 0 ≤ x ∧ x < p := by
  obtain ⟨i, _, rfl⟩ := List.mem_map.1 h
  exact mod_small hp _
theorem invP_one {p : Int} (hp : 2 ≤ p ∧ p ≤ 10007) : invP p 1 = 1 := by
  unfold invP; rw [Int.one_pow]; exact Int.emod_eq_of_lt (by omega) (by omega)
def rowM (t : Nat) (p : Int) (k : Nat) : List Int := if t = 5 then tab (k - 1 + 1) (chP p (k - 1)) else [1]
def okM (t : Nat) (p : Int) (n : Nat) : Bool := !(decide (t = 1) && decide (p ≤ n))
end Go.Proofs.Ytacfkfdnncgjcaa.Ev
