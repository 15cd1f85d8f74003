/- Paths that are counted: the reference's text. Conditions: none. -/
/- BallotNumber, the reference's and the program's, and that they agree. Conditions: none. -/
/- BallotNumber: the program's text, the law, and that both agree. Conditions: none. -/
/- CountPaths and CountLevelPaths: both texts, the laws, and that they agree. Conditions: none. -/
import Derived.Test.YtabnganndcmcnaaFnC
import Derived.Test.YtabnganndcmcnaaFnM
set_option linter.unusedSimpArgs false
set_option linter.unusedVariables false
namespace Go.Proofs.Ytabnganndcmcnaa.Ev
open Go Go.Proofs
open List (map_replicate map_set map_append map_reverse map_take map_drop map_tail any_map all_map mapM_map map_map)
set_option maxRecDepth 4000
set_option maxHeartbeats 4000000

def startS (h i : Nat) : List Int := if i ≤ h then startI h i else List.replicate (h + 1) 0
theorem startS_len (h i : Nat) : (startS h i).length = h + 1 := by
  unfold startS startI; split <;> simp

theorem run_l09Counts (n i h : Nat) (lev : Bool) (hn : n ≤ 1000000) (hi0 : i ≤ 1000000) (hh : h ≤ 1000000) :
    runv E0 244 [.int .i64 n, .int .i64 i, .int .i64 h, .bool lev] = some ⟨true, .uniq 1 (h + 1) ((dpAt (!lev) h (startS h i) n).map (V.int .i64)), [.undef, .undef, .undef, .undef]⟩ := by
  have cdk : codeOk Try.f244.ntmps (Try.f244.body.getD .skip) = true := by kernel_rfl
  refine run_of_WL (fn := Try.f244) rfl Try.func244 rfl ⟨by simp [Try.ntmps244], by simp [wideA, ints], cdk, by simp [Try.f244]⟩ ?_
  have w1 : IntKind.i64.wrap ((h : Int) + 1) = (h : Int) + 1 := IntWalk.i64_in _ (by omega)
  have e1 : ((h : Int) + 1).toNat = h + 1 := by omega
  have c1 : (h + 1) * 8 ≤ 140737488355328 := by omega
  have c2 : (h : Int) + 1 ≤ 9223372036854775807 := by omega
  have c3 : (0 : Int) ≤ (h : Int) + 1 := by omega
  by_cases hi : i ≤ h
  case' pos =>
    have c4 : (i : Int) < (h : Int) + 1 := by omega
    have c5 : i < h + 1 := by omega
    simp [go_sem, -map_replicate, -map_set, -map_append, -map_reverse, -map_take, -map_drop, -map_tail, -any_map, -all_map, -mapM_map, -map_map, hi, slL, zI, w1, e1, c1, c2, c3, zerosI, c4, c5, ldI, szI, setI]
  case' neg =>
    simp [go_sem, -map_replicate, -map_set, -map_append, -map_reverse, -map_take, -map_drop, -map_tail, -any_map, -all_map, -mapM_map, -map_map, hi, slL, zI, w1, e1, c1, c2, c3, zerosI, ldI, szI, setI]
  all_goals
    rw [WL_loop]
    refine WL_rounds (I := fun j st => ∃ t idm : Nat, j + t = n ∧ st.fr 0 = .int .i64 j ∧ st.fr 2 = .int .i64 h ∧ st.fr 3 = .bool lev ∧ st.fr 9 = .sl idm 0 0 (h + 1) ∧ idm < st.nx ∧ st.H idm = some (row (dpAt (!lev) h (startS h i) t))) ?_ n _ ?_
    · rintro j st ⟨t, idm, hj, h0, h2, h3, h9, hid, hm⟩ next
      by_cases ht : 0 < j
      · simp [go_sem, -map_replicate, -map_set, -map_append, -map_reverse, -map_take, -map_drop, -map_tail, -any_map, -all_map, -mapM_map, -map_map, h0, h2, h3, h9, hm, ht, slL, zI, w1, e1, c1, c2, c3, zerosI, ldI, szI, setI]
        rw [WL_loop]
        refine WL_rounds (I := fun j' st' => ∃ q : Nat, j' + q = h + 1 ∧ st'.fr 0 = .int .i64 j ∧ st'.fr 2 = .int .i64 h ∧ st'.fr 3 = .bool lev ∧ st'.fr 9 = .sl idm 0 0 (h + 1) ∧ st'.fr 10 = .sl (st.nx + 256) 0 0 (h + 1) ∧ st'.fr 11 = .int .i64 q ∧ st.nx + 256 < st'.nx ∧
          st'.H idm = some (row (dpAt (!lev) h (startS h i) t)) ∧ st'.H (st.nx + 256) = some (row (spreadTo (!lev) h (dpAt (!lev) h (startS h i) t) q))) ?_ (h + 1) _ ?_
        · rintro j' st' ⟨q, hj', g0, g2, g3, g9, g10, g11, gnx, gm, gn⟩ next'
          have hl := dpAt_len (!lev) h (startS h i) (startS_len h i) t
          have hl' := spreadTo_len (!lev) h (dpAt (!lev) h (startS h i) t) q
          have ne1 : ¬ idm = st.nx + 256 := by omega
          have ne2 : ¬ st.nx + 256 = idm := by omega
          by_cases hq : q ≤ h
          · by_cases p0 : 0 < q <;> by_cases ph : q < h <;> cases lev <;> simp only [Bool.not_false, Bool.not_true] at hl hl' gm gn <;>
              simp (maxSteps := 10000000) (disch := (first | omega | (simp only [List.length_set]; omega) | simp)) [go_sem, -map_replicate, -map_set, -map_append, -map_reverse, -map_take, -map_drop, -map_tail, -any_map, -all_map, -mapM_map, -map_map, if_pos, if_neg, IntWalk.i64_in, setI, getI, rdI_get, rdI_ne, decide_eq_true, decide_eq_false, Int.toNat_natCast, Int.toNat_add, row, g0, g2, g3, g9, g10, g11, gm, gn, ne1, ne2, slL, ldI, szI]
            all_goals repeat' apply And.intro
            all_goals first
              | kernel_rfl
              | (refine next' (j' - 1) _ (by omega) ⟨q + 1, by omega, ?_⟩
                 simp (disch := omega) [upd, rdI_ne, g0, g2, g3, g9, g10, g11, gm, gn, ne1, ne2, row, spreadTo, spread, bump, p0, ph]
                 try omega)
          · simp (maxSteps := 10000000) (disch := (first | omega | (simp only [List.length_set]; omega) | simp)) [go_sem, -map_replicate, -map_set, -map_append, -map_reverse, -map_take, -map_drop, -map_tail, -any_map, -all_map, -mapM_map, -map_map, if_pos, if_neg, IntWalk.i64_in, setI, getI, rdI_get, rdI_ne, decide_eq_true, decide_eq_false, Int.toNat_natCast, Int.toNat_add, row, g0, g2, g3, g9, g10, g11, gm, gn, ne1, ne2, slL, ldI, szI]
            refine next (j - 1) _ (by omega) ⟨t + 1, st.nx + 256, by omega, ?_⟩
            have eq : q = h + 1 := by omega
            subst eq
            simp [upd, g0, g2, g3, g9, g10, g11, gm, gn, ne1, ne2, row, dpAt]
            omega
        · refine ⟨0, by omega, ?_⟩
          have ne1 : ¬ idm = st.nx + 128 + 128 := by omega
          simp [upd, h0, h2, h3, h9, hm, ne1, row, spreadTo, Nat.add_assoc]
      · have : j = 0 := by omega
        subst this
        have : t = n := by omega
        subst this
        simp [go_sem, -map_replicate, -map_set, -map_append, -map_reverse, -map_take, -map_drop, -map_tail, -any_map, -all_map, -mapM_map, -map_map, h0, h2, h3, h9, hm, slL]
        have hl := dpAt_len (!lev) h (startS h i) (startS_len h i) t
        have hx := exp_row hm hl.symm
        have he := eid_row (n := h + 1) hm
        simp [Ends, finish, onlyP, ptrU, finFresh, resV, Try.f244, ctL, depth, upd, hx, he, tree_ints, noTup, outs, outA, outC, outsI, outAI, outI, nodupB, normR, normA, normC, oneV, treeN, E0_P]
    · refine ⟨0, 224, by omega, ?_⟩
      simp [upd, row, dpAt, startS, startI, hi]
end Go.Proofs.Ytabnganndcmcnaa.Ev

set_option linter.unusedSimpArgs false
set_option linter.unusedVariables false
namespace Go.Proofs.Ytabnganndcmcnaa.Ev
open Go Go.Proofs
open List (map_replicate map_set map_append map_reverse map_take map_drop map_tail any_map all_map mapM_map map_map)
set_option maxRecDepth 4000
set_option maxHeartbeats 4000000


theorem run_l09Count (n i k h : Nat) (lev : Bool) (hn : n ≤ 1000000) (hi0 : i ≤ 1000000) (hh : h ≤ 1000000) :
    runv E0 163 [.int .i64 n, .int .i64 i, .int .i64 k, .int .i64 h, .bool lev] = some ⟨true, .int .i64 (if h < k then 0 else rdI (dpAt (!lev) h (startS h i) n) k), [.undef, .undef, .undef, .undef, .undef]⟩ := by
  have cdk : codeOk Try.f163.ntmps (Try.f163.body.getD .skip) = true := by kernel_rfl
  refine run_of_WL (fn := Try.f163) rfl Try.func163 rfl ⟨by simp [Try.ntmps163], by simp [wideA, ints], cdk, by simp [Try.f163]⟩ ?_
  by_cases hk : h < k
  · simp [go_sem, -map_replicate, -map_set, -map_append, -map_reverse, -map_take, -map_drop, -map_tail, -any_map, -all_map, -mapM_map, -map_map, hk]
    simp [mvcgen_simp, -map_replicate, -map_set, -map_append, -map_reverse, -map_take, -map_drop, -map_tail, -any_map, -all_map, -mapM_map, -map_map, Try.f163, ctI64]
  · have hl := dpAt_len (!lev) h (startS h i) (startS_len h i) n
    have k1 : (k : Int) < (h : Int) + 1 := by omega
    have k2 : k < (dpAt (!lev) h (startS h i) n).length := by omega
    simp [go_sem, -map_replicate, -map_set, -map_append, -map_reverse, -map_take, -map_drop, -map_tail, -any_map, -all_map, -mapM_map, -map_map, hk, run_l09Counts n i h lev hn hi0 hh, slL, ldI, k1, getI k2]
    simp [mvcgen_simp, -map_replicate, -map_set, -map_append, -map_reverse, -map_take, -map_drop, -map_tail, -any_map, -all_map, -mapM_map, -map_map, Try.f163, ctI64]

def counted (n : Int) : Bool := decide (0 ≤ n) && decide (n ≤ 24)
theorem counted_nat {n : Int} (h : counted n = true) : ∃ m : Nat, n = m ∧ m ≤ 24 := by
  simp [counted] at h
  exact ⟨n.toNat, by omega, by omega⟩

/-- The answer of BallotNumber: a number and an error's number. -/
def ballot (n k : Int) : Int × Int := if counted n && counted k then (rdI (dpAt false 24 (startS 24 0) n.toNat) k.toNat, 0) else (0, 2)

theorem run_specBallot (n k : Int) : runv E0 47 [.int .i64 n, .int .i64 k] = some ⟨true, .tup [.int .i64 (ballot n k).1, .int .i64 (ballot n k).2], [.undef, .undef]⟩ := by
  have cdk : codeOk Try.f47.ntmps (Try.f47.body.getD .skip) = true := by kernel_rfl
  refine run_of_WL (fn := Try.f47) rfl Try.func47 rfl ⟨by simp [Try.ntmps47], by simp [wideA, ints], cdk, by simp [Try.f47]⟩ ?_
  cases hn : counted n with
  | false =>
    have hb : ballot n k = (0, 2) := by simp [ballot, hn]
    have hn' := hn
    simp only [counted] at hn'
    simp [go_sem, -map_replicate, -map_set, -map_append, -map_reverse, -map_take, -map_drop, -map_tail, -any_map, -all_map, -mapM_map, -map_map, run_l01In, hn']
    simp [mvcgen_simp, -map_replicate, -map_set, -map_append, -map_reverse, -map_take, -map_drop, -map_tail, -any_map, -all_map, -mapM_map, -map_map, Try.f47, ctI64, hb]
  | true =>
    cases hk : counted k with
    | false =>
      have hb : ballot n k = (0, 2) := by simp [ballot, hk]
      have hn' := hn
      have hk' := hk
      simp only [counted] at hn' hk'
      simp [go_sem, -map_replicate, -map_set, -map_append, -map_reverse, -map_take, -map_drop, -map_tail, -any_map, -all_map, -mapM_map, -map_map, run_l01In, hn', hk']
      simp [mvcgen_simp, -map_replicate, -map_set, -map_append, -map_reverse, -map_take, -map_drop, -map_tail, -any_map, -all_map, -mapM_map, -map_map, Try.f47, ctI64, hb]
    | true =>
      have hb : ballot n k = (rdI (dpAt false 24 (startS 24 0) n.toNat) k.toNat, 0) := by simp [ballot, hk, hn]
      have hn' := hn
      have hk' := hk
      simp only [counted] at hn' hk'
      obtain ⟨m, rfl, hm⟩ := counted_nat hn
      obtain ⟨q, rfl, hq⟩ := counted_nat hk
      have hr := run_l09Count m 0 q 24 true (by omega) (by omega) (by omega)
      have hq' : ¬ 24 < q := by omega
      have mi : (m : Int) ≤ 24 := by omega
      have qi : (q : Int) ≤ 24 := by omega
      simp at hr
      simp [go_sem, -map_replicate, -map_set, -map_append, -map_reverse, -map_take, -map_drop, -map_tail, -any_map, -all_map, -mapM_map, -map_map, run_l01In, mi, qi, hr, hq']
      simp [mvcgen_simp, -map_replicate, -map_set, -map_append, -map_reverse, -map_take, -map_drop, -map_tail, -any_map, -all_map, -mapM_map, -map_map, Try.f47, ctI64, hb]
end Go.Proofs.Ytabnganndcmcnaa.Ev

set_option linter.unusedSimpArgs false
set_option linter.unusedVariables false
namespace Go.Proofs.Ytabnganndcmcnaa.Ev
open Go Go.Proofs
open List (map_replicate map_set map_append map_reverse map_take map_drop map_tail any_map all_map mapM_map map_map)
set_option maxRecDepth 4000
set_option maxHeartbeats 4000000

/-! ### The plain law: paths of at most 24 steps do not see a ceiling of 24. -/
def agree : Nat → List Int → List Int → Bool
  | 0, a, b => decide (a = b.take 25)
  | t + 1, a, b => decide (a = b.take 25) && agree t (spreadTo false 24 a 25) (spreadTo false 48 b 49)
theorem agree_at : ∀ (t : Nat) (a b : List Int), agree t a b = true → ∀ n, n ≤ t → dpAt false 24 a n = (dpAt false 48 b n).take 25 := by
  have step : ∀ (h : Nat) (a : List Int) (n : Nat), dpAt false h a (n + 1) = dpAt false h (spreadTo false h a (h + 1)) n := by
    intro h a n
    induction n with
    | zero => rfl
    | succ n ih => rw [dpAt, ih]; rfl
  intro t
  induction t with
  | zero =>
    intro a b h n hn
    obtain rfl : n = 0 := by omega
    simpa [agree, dpAt] using h
  | succ t ih =>
    intro a b h n hn
    simp only [agree, Bool.and_eq_true, decide_eq_true_eq] at h
    match n with
    | 0 => exact h.1
    | n + 1 =>
      rw [step, step]
      exact ih _ _ h.2 n (by omega)
set_option maxRecDepth 100000 in
theorem agreed : agree 24 (startS 24 0) (startI 48 0) = true := by decide +kernel
theorem ballots (n k : Nat) (hn : n ≤ 24) (hk : k ≤ 24) : rdI (dpAt false 24 (startS 24 0) n) k = rdI (dpAt false 48 (startI 48 0) n) k := by
  rw [agree_at 24 _ _ agreed n hn]
  unfold rdI
  simp [List.getD_eq_getElem?_getD, List.getElem?_take, show k < 25 by omega]

theorem zeros2 : zerosV 2 [V.int .i64 0] = [.int .i64 0, .int .i64 0] := rfl

theorem run_implBallot (n k : Int) : runv E0 46 [.int .i64 n, .int .i64 k] = some ⟨true, .tup [.int .i64 (ballot n k).1, .int .i64 (ballot n k).2], [.undef, .undef]⟩ := by
  have cdk : codeOk Try.f46.ntmps (Try.f46.body.getD .skip) = true := by kernel_rfl
  refine run_of_WL (fn := Try.f46) rfl Try.func46 rfl ⟨by simp [Try.ntmps46], by simp [wideA, ints], cdk, by simp [Try.f46]⟩ ?_
  have hc := run_areCounted [n, k] (by simp)
  rw [show ([n, k].all fun n => decide (0 ≤ n) && decide (n ≤ 24)) = (counted n && counted k) by simp [counted]] at hc
  cases hb : (counted n && counted k) with
  | false =>
    have hb' : ballot n k = (0, 2) := by simp only [ballot, hb]; rfl
    rw [hb] at hc
    unfold ints at hc
    simp at hc
    simp [go_sem, -map_replicate, -map_set, -map_append, -map_reverse, -map_take, -map_drop, -map_tail, -any_map, -all_map, -mapM_map, -map_map, slL, szI, zI, zeros2, fillV, setCs, hc]
    simp [mvcgen_simp, -map_replicate, -map_set, -map_append, -map_reverse, -map_take, -map_drop, -map_tail, -any_map, -all_map, -mapM_map, -map_map, Try.f46, ctI64, hb']
  | true =>
    have hb' : ballot n k = (rdI (dpAt false 24 (startS 24 0) n.toNat) k.toNat, 0) := by simp only [ballot, hb]; rfl
    rw [hb] at hc
    unfold ints at hc
    simp only [Bool.and_eq_true] at hb
    obtain ⟨m, rfl, hm⟩ := counted_nat hb.1
    obtain ⟨q, rfl, hq⟩ := counted_nat hb.2
    have hr := run_countPaths m 0 q 48 false (by omega) (by omega)
    have hq' : ¬ 48 < q := by omega
    have he := ballots m q hm hq
    simp at hc hr
    simp [go_sem, -map_replicate, -map_set, -map_append, -map_reverse, -map_take, -map_drop, -map_tail, -any_map, -all_map, -mapM_map, -map_map, slL, szI, zI, zeros2, fillV, setCs, hc, hr, hq']
    simp [mvcgen_simp, -map_replicate, -map_set, -map_append, -map_reverse, -map_take, -map_drop, -map_tail, -any_map, -all_map, -mapM_map, -map_map, Try.f46, ctI64, hb', he]

end Go.Proofs.Ytabnganndcmcnaa.Ev

set_option linter.unusedSimpArgs false
set_option linter.unusedVariables false
namespace Go.Proofs.Ytabnganndcmcnaa.Ev
open Go Go.Proofs
open List (map_replicate map_set map_append map_reverse map_take map_drop map_tail any_map all_map mapM_map map_map)
set_option maxRecDepth 4000
set_option maxHeartbeats 4000000

/-! ### The plain law: from a height above the ceiling nothing comes. -/
theorem rdI_zerosG (n k : Nat) : rdI (List.replicate n 0) k = 0 := by
  unfold rdI; simp [List.getD_eq_getElem?_getD, List.getElem?_replicate]; split <;> rfl
theorem bump_zeros (n i : Nat) : bump (List.replicate n 0) i 0 = List.replicate n 0 := by
  unfold bump
  rw [rdI_zerosG]
  apply List.ext_getElem
  · simp
  · intro j h1 h2
    rw [List.getElem_set]; simp; intro _; rfl
theorem spread_zeros (lev : Bool) (h k n : Nat) : spread lev h k 0 (List.replicate n 0) = List.replicate n 0 := by
  unfold spread; cases lev <;> simp [bump_zeros]
theorem spreadTo_zeros (lev : Bool) (h : Nat) : ∀ k, spreadTo lev h (List.replicate (h + 1) 0) k = List.replicate (h + 1) 0
  | 0 => rfl
  | k + 1 => by rw [spreadTo, rdI_zerosG, spreadTo_zeros lev h k, spread_zeros]
theorem dpAt_zeros (lev : Bool) (h : Nat) : ∀ t, dpAt lev h (List.replicate (h + 1) 0) t = List.replicate (h + 1) 0
  | 0 => rfl
  | t + 1 => by rw [dpAt, dpAt_zeros lev h t, spreadTo_zeros]
theorem counts_agree (lev : Bool) (n i k h : Nat) : (if h < i ∨ h < k then 0 else rdI (dpAt lev h (startI h i) n) k) = (if h < k then 0 else rdI (dpAt lev h (startS h i) n) k) := by
  by_cases hk : h < k
  · simp [hk]
  · by_cases hi : h < i
    · have : ¬ i ≤ h := by omega
      simp [hk, hi, startS, this, dpAt_zeros, rdI_zerosG]
    · have : i ≤ h := by omega
      simp [hk, hi, startS, this]

def given (n i k h : Int) : Bool := counted n && counted i && counted k && counted h
def counting (lev : Bool) (n i k h : Int) : Int × Int :=
  if given n i k h then (if h.toNat < k.toNat then 0 else rdI (dpAt lev h.toNat (startS h.toNat i.toNat) n.toNat) k.toNat, 0) else (0, 2)

theorem run_l09Given (n i k h : Int) : runv E0 162 [.int .i64 n, .int .i64 i, .int .i64 k, .int .i64 h] = some ⟨true, .bool (given n i k h), [.undef, .undef, .undef, .undef]⟩ := by
  have cdk : codeOk Try.f162.ntmps (Try.f162.body.getD .skip) = true := by kernel_rfl
  refine run_of_WL (fn := Try.f162) rfl Try.func162 rfl ⟨by simp [Try.ntmps162], by simp [wideA, ints], cdk, by simp [Try.f162]⟩ ?_
  have e : ∀ x, counted x = (decide (0 ≤ x) && decide (x ≤ 24)) := fun _ => rfl
  cases h1 : counted n <;> cases h2 : counted i <;> cases h3 : counted k <;> rw [e] at h1 h2 h3 <;> simp [go_sem, -map_replicate, -map_set, -map_append, -map_reverse, -map_take, -map_drop, -map_tail, -any_map, -all_map, -mapM_map, -map_map, run_l01In, h1, h2, h3] <;> simp [mvcgen_simp, -map_replicate, -map_set, -map_append, -map_reverse, -map_take, -map_drop, -map_tail, -any_map, -all_map, -mapM_map, -map_map, Try.f162, given, e, h1, h2, h3]

theorem run_specCountPaths (n i k h : Int) : runv E0 52 [.int .i64 n, .int .i64 i, .int .i64 k, .int .i64 h] = some ⟨true, .tup [.int .i64 (counting true n i k h).1, .int .i64 (counting true n i k h).2], [.undef, .undef, .undef, .undef]⟩ := by
  have cdk : codeOk Try.f52.ntmps (Try.f52.body.getD .skip) = true := by kernel_rfl
  refine run_of_WL (fn := Try.f52) rfl Try.func52 rfl ⟨by simp [Try.ntmps52], by simp [wideA, ints], cdk, by simp [Try.f52]⟩ ?_
  cases hg : given n i k h with
  | false =>
    simp [go_sem, -map_replicate, -map_set, -map_append, -map_reverse, -map_take, -map_drop, -map_tail, -any_map, -all_map, -mapM_map, -map_map, run_l09Given, hg]
    simp [mvcgen_simp, -map_replicate, -map_set, -map_append, -map_reverse, -map_take, -map_drop, -map_tail, -any_map, -all_map, -mapM_map, -map_map, Try.f52, counting, hg]
  | true =>
    have hg' := hg
    simp only [given, Bool.and_eq_true] at hg'
    obtain ⟨n, rfl, hn⟩ := counted_nat hg'.1.1.1
    obtain ⟨i, rfl, hi⟩ := counted_nat hg'.1.1.2
    obtain ⟨k, rfl, hk⟩ := counted_nat hg'.1.2
    obtain ⟨h, rfl, hh⟩ := counted_nat hg'.2
    have hr := run_l09Count n i k h false (by omega) (by omega) (by omega)
    have hr2 := run_l09Count n i k h true (by omega) (by omega) (by omega)
    simp [go_sem, -map_replicate, -map_set, -map_append, -map_reverse, -map_take, -map_drop, -map_tail, -any_map, -all_map, -mapM_map, -map_map, run_l09Given, hg, hr, hr2]
    simp [mvcgen_simp, -map_replicate, -map_set, -map_append, -map_reverse, -map_take, -map_drop, -map_tail, -any_map, -all_map, -mapM_map, -map_map, Try.f52, counting, hg]
theorem run_specCountLevelPaths (n i k h : Int) : runv E0 54 [.int .i64 n, .int .i64 i, .int .i64 k, .int .i64 h] = some ⟨true, .tup [.int .i64 (counting false n i k h).1, .int .i64 (counting false n i k h).2], [.undef, .undef, .undef, .undef]⟩ := by
  have cdk : codeOk Try.f54.ntmps (Try.f54.body.getD .skip) = true := by kernel_rfl
  refine run_of_WL (fn := Try.f54) rfl Try.func54 rfl ⟨by simp [Try.ntmps54], by simp [wideA, ints], cdk, by simp [Try.f54]⟩ ?_
  cases hg : given n i k h with
  | false =>
    simp [go_sem, -map_replicate, -map_set, -map_append, -map_reverse, -map_take, -map_drop, -map_tail, -any_map, -all_map, -mapM_map, -map_map, run_l09Given, hg]
    simp [mvcgen_simp, -map_replicate, -map_set, -map_append, -map_reverse, -map_take, -map_drop, -map_tail, -any_map, -all_map, -mapM_map, -map_map, Try.f54, counting, hg]
  | true =>
    have hg' := hg
    simp only [given, Bool.and_eq_true] at hg'
    obtain ⟨n, rfl, hn⟩ := counted_nat hg'.1.1.1
    obtain ⟨i, rfl, hi⟩ := counted_nat hg'.1.1.2
    obtain ⟨k, rfl, hk⟩ := counted_nat hg'.1.2
    obtain ⟨h, rfl, hh⟩ := counted_nat hg'.2
    have hr := run_l09Count n i k h false (by omega) (by omega) (by omega)
    have hr2 := run_l09Count n i k h true (by omega) (by omega) (by omega)
    simp [go_sem, -map_replicate, -map_set, -map_append, -map_reverse, -map_take, -map_drop, -map_tail, -any_map, -all_map, -mapM_map, -map_map, run_l09Given, hg, hr, hr2]
    simp [mvcgen_simp, -map_replicate, -map_set, -map_append, -map_reverse, -map_take, -map_drop, -map_tail, -any_map, -all_map, -mapM_map, -map_map, Try.f54, counting, hg]

theorem zeros4 : zerosV 4 [V.int .i64 0] = [.int .i64 0, .int .i64 0, .int .i64 0, .int .i64 0] := rfl
theorem areCounted4 (n i k h : Int) : runv E0 159 [.list 4 [.int .i64 n, .int .i64 i, .int .i64 k, .int .i64 h]] = some ⟨true, .bool (given n i k h), [.undef]⟩ := by
  have := run_areCounted [n, i, k, h] (by simp)
  unfold ints at this
  simp only [List.map_cons, List.map_nil, List.length_cons, List.length_nil] at this
  rw [this]
  simp [given, counted, Bool.and_assoc]

theorem run_implCountPaths (n i k h : Int) : runv E0 39 [.int .i64 n, .int .i64 i, .int .i64 k, .int .i64 h] = some ⟨true, .tup [.int .i64 (counting true n i k h).1, .int .i64 (counting true n i k h).2], [.undef, .undef, .undef, .undef]⟩ := by
  have cdk : codeOk Try.f39.ntmps (Try.f39.body.getD .skip) = true := by kernel_rfl
  refine run_of_WL (fn := Try.f39) rfl Try.func39 rfl ⟨by simp [Try.ntmps39], by simp [wideA, ints], cdk, by simp [Try.f39]⟩ ?_
  cases hg : given n i k h with
  | false =>
    simp [go_sem, -map_replicate, -map_set, -map_append, -map_reverse, -map_take, -map_drop, -map_tail, -any_map, -all_map, -mapM_map, -map_map, slL, szI, zI, zeros4, fillV, setCs, areCounted4, hg]
    simp [mvcgen_simp, -map_replicate, -map_set, -map_append, -map_reverse, -map_take, -map_drop, -map_tail, -any_map, -all_map, -mapM_map, -map_map, Try.f39, counting, hg]
  | true =>
    have hg' := hg
    simp only [given, Bool.and_eq_true] at hg'
    obtain ⟨n, rfl, hn⟩ := counted_nat hg'.1.1.1
    obtain ⟨i, rfl, hi⟩ := counted_nat hg'.1.1.2
    obtain ⟨k, rfl, hk⟩ := counted_nat hg'.1.2
    obtain ⟨h, rfl, hh⟩ := counted_nat hg'.2
    have hr := fun lev => run_countPaths n i k h lev (by omega) (by omega)
    simp [go_sem, -map_replicate, -map_set, -map_append, -map_reverse, -map_take, -map_drop, -map_tail, -any_map, -all_map, -mapM_map, -map_map, slL, szI, zI, zeros4, fillV, setCs, areCounted4, hg, hr]
    simp [mvcgen_simp, -map_replicate, -map_set, -map_append, -map_reverse, -map_take, -map_drop, -map_tail, -any_map, -all_map, -mapM_map, -map_map, Try.f39, counting, hg, counts_agree]
theorem run_implCountLevelPaths (n i k h : Int) : runv E0 40 [.int .i64 n, .int .i64 i, .int .i64 k, .int .i64 h] = some ⟨true, .tup [.int .i64 (counting false n i k h).1, .int .i64 (counting false n i k h).2], [.undef, .undef, .undef, .undef]⟩ := by
  have cdk : codeOk Try.f40.ntmps (Try.f40.body.getD .skip) = true := by kernel_rfl
  refine run_of_WL (fn := Try.f40) rfl Try.func40 rfl ⟨by simp [Try.ntmps40], by simp [wideA, ints], cdk, by simp [Try.f40]⟩ ?_
  cases hg : given n i k h with
  | false =>
    simp [go_sem, -map_replicate, -map_set, -map_append, -map_reverse, -map_take, -map_drop, -map_tail, -any_map, -all_map, -mapM_map, -map_map, slL, szI, zI, zeros4, fillV, setCs, areCounted4, hg]
    simp [mvcgen_simp, -map_replicate, -map_set, -map_append, -map_reverse, -map_take, -map_drop, -map_tail, -any_map, -all_map, -mapM_map, -map_map, Try.f40, counting, hg]
  | true =>
    have hg' := hg
    simp only [given, Bool.and_eq_true] at hg'
    obtain ⟨n, rfl, hn⟩ := counted_nat hg'.1.1.1
    obtain ⟨i, rfl, hi⟩ := counted_nat hg'.1.1.2
    obtain ⟨k, rfl, hk⟩ := counted_nat hg'.1.2
    obtain ⟨h, rfl, hh⟩ := counted_nat hg'.2
    have hr := fun lev => run_countPaths n i k h lev (by omega) (by omega)
    simp [go_sem, -map_replicate, -map_set, -map_append, -map_reverse, -map_take, -map_drop, -map_tail, -any_map, -all_map, -mapM_map, -map_map, slL, szI, zI, zeros4, fillV, setCs, areCounted4, hg, hr]
    simp [mvcgen_simp, -map_replicate, -map_set, -map_append, -map_reverse, -map_take, -map_drop, -map_tail, -any_map, -all_map, -mapM_map, -map_map, Try.f40, counting, hg, counts_agree]

end Go.Proofs.Ytabnganndcmcnaa.Ev
