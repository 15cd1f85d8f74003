/- Paths that are counted, run by the texts. Conditions: none. -/
import Derived.Test.YtabnganndcmcnaaFnB
set_option linter.unusedSimpArgs false
set_option linter.unusedVariables false
namespace Go.Proofs.Ytabnganndcmcnaa.Ev
open Go Go.Proofs
open List (map_replicate map_set map_append map_reverse map_take map_drop map_tail any_map all_map mapM_map map_map)
set_option maxRecDepth 4000
set_option maxHeartbeats 4000000

def bump (l : List Int) (i : Nat) (x : Int) : List Int := l.set i (IntKind.i64.wrap (rdI l i + x))
theorem bump_len (l : List Int) (i : Nat) (x : Int) : (bump l i x).length = l.length := by simp [bump]
def spread (lev : Bool) (h k : Nat) (x : Int) (next : List Int) : List Int :=
  let n1 := if lev then bump next k x else next
  let n2 := if 0 < k then bump n1 (k - 1) x else n1
  if k < h then bump n2 (k + 1) x else n2
theorem spread_len (lev : Bool) (h k : Nat) (x : Int) (next : List Int) : (spread lev h k x next).length = next.length := by
  unfold spread; simp only; split <;> split <;> split <;> simp [bump_len]
def spreadTo (lev : Bool) (h : Nat) (many : List Int) : Nat → List Int
  | 0 => List.replicate (h + 1) 0
  | k + 1 => spread lev h k (rdI many k) (spreadTo lev h many k)
theorem spreadTo_len (lev : Bool) (h : Nat) (many : List Int) : ∀ k, (spreadTo lev h many k).length = h + 1
  | 0 => by simp [spreadTo]
  | k + 1 => by rw [spreadTo, spread_len, spreadTo_len lev h many k]
def dpAt (lev : Bool) (h : Nat) (start : List Int) : Nat → List Int
  | 0 => start
  | t + 1 => spreadTo lev h (dpAt lev h start t) (h + 1)
theorem dpAt_len (lev : Bool) (h : Nat) (start : List Int) (hs : start.length = h + 1) : ∀ t, (dpAt lev h start t).length = h + 1
  | 0 => hs
  | t + 1 => spreadTo_len ..
def startI (h i : Nat) : List Int := (List.replicate (h + 1) 0).set i 1


theorem run_countPaths (n i k h : Nat) (lev : Bool) (hn : n ≤ 1000000) (hh : h ≤ 1000000) :
    runv E0 160 [.int .i64 n, .int .i64 i, .int .i64 k, .int .i64 h, .bool lev] = some ⟨true, .int .i64 (if h < i ∨ h < k then 0 else rdI (dpAt lev h (startI h i) n) k), [.undef, .undef, .undef, .undef, .undef]⟩ := by
  have cdk : codeOk Try.f160.ntmps (Try.f160.body.getD .skip) = true := by kernel_rfl
  refine run_of_WL (fn := Try.f160) rfl Try.func160 rfl ⟨by simp [Try.ntmps160], by simp [wideA, ints], cdk, by simp [Try.f160]⟩ ?_
  by_cases hi : h < i
  · simp [go_sem, -map_replicate, -map_set, -map_append, -map_reverse, -map_take, -map_drop, -map_tail, -any_map, -all_map, -mapM_map, -map_map, hi]
    simp [mvcgen_simp, -map_replicate, -map_set, -map_append, -map_reverse, -map_take, -map_drop, -map_tail, -any_map, -all_map, -mapM_map, -map_map, Try.f160, ctI64]
  by_cases hk : h < k
  · simp [go_sem, -map_replicate, -map_set, -map_append, -map_reverse, -map_take, -map_drop, -map_tail, -any_map, -all_map, -mapM_map, -map_map, hi, hk]
    simp [mvcgen_simp, -map_replicate, -map_set, -map_append, -map_reverse, -map_take, -map_drop, -map_tail, -any_map, -all_map, -mapM_map, -map_map, Try.f160, ctI64]
  have w1 : IntKind.i64.wrap ((h : Int) + 1) = (h : Int) + 1 := IntWalk.i64_in _ (by omega)
  have e1 : ((h : Int) + 1).toNat = h + 1 := by omega
  have c1 : (h + 1) * 8 ≤ 140737488355328 := by omega
  have c2 : (h : Int) + 1 ≤ 9223372036854775807 := by omega
  have c3 : (0 : Int) ≤ (h : Int) + 1 := by omega
  have c4 : (i : Int) < (h : Int) + 1 := by omega
  have c5 : i < h + 1 := by omega
  have c6 : i ≤ h := by omega
  simp [go_sem, -map_replicate, -map_set, -map_append, -map_reverse, -map_take, -map_drop, -map_tail, -any_map, -all_map, -mapM_map, -map_map, hi, hk, slL, zI, w1, e1, c1, c2, c3, zerosI, c4, c5, c6, ldI, szI, setI]
  rw [WL_loop]
  refine WL_rounds (I := fun j st => ∃ t idm : Nat, j + t = n ∧ st.fr 0 = .int .i64 n ∧ st.fr 2 = .int .i64 k ∧ st.fr 3 = .int .i64 h ∧ st.fr 4 = .bool lev ∧ st.fr 29 = .int .i64 n ∧ st.fr 30 = .int .i64 t ∧ st.fr 11 = .sl idm 0 0 (h + 1) ∧ idm < st.nx ∧
    st.H idm = some (row (dpAt lev h (startI h i) t))) ?_ n _ ?_
  · rintro j st ⟨t, idm, hj, h0, h2, h3, h4, h29, h30, h11, hid, hm⟩ next
    by_cases ht : t < n
    · simp [go_sem, -map_replicate, -map_set, -map_append, -map_reverse, -map_take, -map_drop, -map_tail, -any_map, -all_map, -mapM_map, -map_map, h0, h2, h3, h4, h29, h30, h11, ht, slL, zI, w1, e1, c1, c2, c3, zerosI, c4, c5, c6, ldI, szI, setI, undL]
      rw [WL_loop]
      refine WL_rounds (I := fun j' st' => ∃ q : Nat, j' + q = h + 1 ∧ st'.fr 0 = .int .i64 n ∧ st'.fr 2 = .int .i64 k ∧ st'.fr 3 = .int .i64 h ∧ st'.fr 4 = .bool lev ∧ st'.fr 29 = .int .i64 n ∧ st'.fr 30 = .int .i64 t ∧ st'.fr 12 = .sl (st.nx + 192) 0 0 (h + 1) ∧
        st'.fr 35 = .sl idm 0 0 (h + 1) ∧ st'.fr 36 = .int .i64 ((h : Int) + 1) ∧ st'.fr 37 = .int .i64 q ∧ st.nx + 192 < st'.nx ∧
        st'.H idm = some (row (dpAt lev h (startI h i) t)) ∧ st'.H (st.nx + 192) = some (row (spreadTo lev h (dpAt lev h (startI h i) t) q))) ?_ (h + 1) _ ?_
      · rintro j' st' ⟨q, hj', g0, g2, g3, g4, g29, g30, g12, g35, g36, g37, gnx, gm, gn⟩ next'
        have hl := dpAt_len lev h (startI h i) (by simp [startI]) t
        have hl' := spreadTo_len lev h (dpAt lev h (startI h i) t) q
        have ne1 : ¬ idm = st.nx + 192 := by omega
        have ne2 : ¬ st.nx + 192 = idm := by omega
        by_cases hq : q < h + 1
        · by_cases p0 : 0 < q <;> by_cases ph : q < h <;> cases lev <;>
            simp (maxSteps := 10000000) (disch := (first | omega | (simp only [List.length_set]; omega) | simp)) [go_sem, -map_replicate, -map_set, -map_append, -map_reverse, -map_take, -map_drop, -map_tail, -any_map, -all_map, -mapM_map, -map_map, if_pos, if_neg, IntWalk.i64_in, setI, getI, rdI_get, rdI_ne, decide_eq_true, decide_eq_false, Int.toNat_natCast, Int.toNat_add, row, g0, g2, g3, g4, g29, g30, g12, g35, g36, g37, gm, gn, slL, ldI, szI]
          all_goals refine next' (j' - 1) _ (by omega) ⟨q + 1, by omega, ?_⟩
          all_goals simp (disch := omega) [upd, rdI_ne, g0, g2, g3, g4, g29, g30, g12, g35, g36, g37, gm, gn, ne1, ne2, row, spreadTo, spread, bump, p0, ph]
          all_goals omega
        · simp (maxSteps := 10000000) (disch := (first | omega | (simp only [List.length_set]; omega) | simp)) [go_sem, -map_replicate, -map_set, -map_append, -map_reverse, -map_take, -map_drop, -map_tail, -any_map, -all_map, -mapM_map, -map_map, if_pos, if_neg, IntWalk.i64_in, setI, getI, rdI_get, rdI_ne, decide_eq_true, decide_eq_false, Int.toNat_natCast, Int.toNat_add, row, g0, g2, g3, g4, g29, g30, g12, g35, g36, g37, gm, gn, slL, ldI, szI]
          refine next (j - 1) _ (by omega) ⟨t + 1, st.nx + 192, by omega, ?_⟩
          have eq : q = h + 1 := by omega
          subst eq
          simp [upd, g0, g2, g3, g4, g29, g30, g12, g35, g36, g37, gm, gn, ne1, ne2, row, dpAt]
          omega
      · refine ⟨0, by omega, ?_⟩
        have ne1 : ¬ idm = st.nx + 64 + 128 := by omega
        simp [upd, h0, h2, h3, h4, h29, h30, h11, hm, ne1, row, spreadTo, Nat.add_assoc]
    · have k1 : (k : Int) < (h : Int) + 1 := by omega
      have k2 : k ≤ h := by omega
      have et : t = n := by omega
      subst et
      have hl := dpAt_len lev h (startI h i) (by simp [startI]) t
      have k3 : k < (dpAt lev h (startI h i) t).length := by omega
      simp [go_sem, -map_replicate, -map_set, -map_append, -map_reverse, -map_take, -map_drop, -map_tail, -any_map, -all_map, -mapM_map, -map_map, h0, h2, h3, h4, h29, h30, h11, ht, slL, k1, hm, row, ldI, getI k3]
      simp [mvcgen_simp, -map_replicate, -map_set, -map_append, -map_reverse, -map_take, -map_drop, -map_tail, -any_map, -all_map, -mapM_map, -map_map, Try.f160, ctI64]
  · refine ⟨0, 744, by omega, ?_⟩
    simp [upd, row, dpAt, startI]

theorem run_l01In (n lo hi : Int) : runv E0 121 [.int .i64 n, .int .i64 lo, .int .i64 hi] = some ⟨true, .bool (decide (lo ≤ n) && decide (n ≤ hi)), [.undef, .undef, .undef]⟩ := by
  have cdk : codeOk Try.f121.ntmps (Try.f121.body.getD .skip) = true := by kernel_rfl
  refine run_of_WL (fn := Try.f121) rfl Try.func121 rfl ⟨by simp [Try.ntmps121], by simp [wideA, ints], cdk, by simp [Try.f121]⟩ ?_
  by_cases h1 : lo ≤ n <;> simp [go_sem, -map_replicate, -map_set, -map_append, -map_reverse, -map_take, -map_drop, -map_tail, -any_map, -all_map, -mapM_map, -map_map, h1] <;> simp [mvcgen_simp, -map_replicate, -map_set, -map_append, -map_reverse, -map_take, -map_drop, -map_tail, -any_map, -all_map, -mapM_map, -map_map, Try.f121, ctBool]
end Go.Proofs.Ytabnganndcmcnaa.Ev
