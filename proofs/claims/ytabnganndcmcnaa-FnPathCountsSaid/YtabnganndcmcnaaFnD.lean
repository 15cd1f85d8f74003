/- Paths that are counted: the reference's text. Conditions: none. -/
import Derived.Test.YtabnganndcmcnaaFnC
set_option linter.unusedSimpArgs false
set_option linter.unusedVariables false
namespace Go.Proofs.Ytabnganndcmcnaa.Ev
open Go Go.Proofs
set_option maxRecDepth 4000
set_option maxHeartbeats 4000000

def startS (h i : Nat) : List Int := if i ≤ h then startI h i else List.replicate (h + 1) 0
theorem startS_len (h i : Nat) : (startS h i).length = h + 1 := by
  unfold startS startI; split <;> simp

theorem run_l09Counts (n i h : Nat) (lev : Bool) (hn : n ≤ 1000000) (hi0 : i ≤ 1000000) (hh : h ≤ 1000000) :
    runv E0 244 [.int .i64 n, .int .i64 i, .int .i64 h, .bool lev] = some ⟨true, .uniq 1 (h + 1) ((dpAt (!lev) h (startS h i) n).map (V.int .i64)), [.undef, .undef, .undef, .undef]⟩ := by
  have cdk : codeOk Try.f244.ntmps (Try.f244.body.getD .skip) = true := by kernel_rfl
  refine run_of_WL (fn := Try.f244) rfl Try.func244 rfl ⟨by simp [Try.ntmps244], by simp [wideA, ints], cdk, by simp [Try.f244]⟩ ?_
  have w1 : IntKind.i64.wrap ((h : Int) + 1) = (h : Int) + 1 := IntWalk.i64_in _ (by omega)
  have e1 : ((h : Int) + 1).toNat = h + 1 := by omega
  have c1 : (h + 1) * 8 ≤ 140737488355328 := by omega
  have c2 : (h : Int) + 1 ≤ 9223372036854775807 := by omega
  have c3 : (0 : Int) ≤ (h : Int) + 1 := by omega
  by_cases hi : i ≤ h
  case' pos =>
    have c4 : (i : Int) < (h : Int) + 1 := by omega
    have c5 : i < h + 1 := by omega
    simp [go_sem, -List.map_replicate, -List.map_set, -List.map_append, -List.map_reverse, -List.map_take, -List.map_drop, -List.map_tail, -List.any_map, -List.all_map, -List.mapM_map, -List.map_map, hi, slL, zI, w1, e1, c1, c2, c3, zerosI, c4, c5, ldI, szI, setI]
  case' neg =>
    simp [go_sem, -List.map_replicate, -List.map_set, -List.map_append, -List.map_reverse, -List.map_take, -List.map_drop, -List.map_tail, -List.any_map, -List.all_map, -List.mapM_map, -List.map_map, hi, slL, zI, w1, e1, c1, c2, c3, zerosI, ldI, szI, setI]
  all_goals
    rw [WL_loop]
    refine WL_rounds (I := fun j st => ∃ t idm : Nat, j + t = n ∧ st.fr 0 = .int .i64 j ∧ st.fr 2 = .int .i64 h ∧ st.fr 3 = .bool lev ∧ st.fr 9 = .sl idm 0 0 (h + 1) ∧ idm < st.nx ∧ st.H idm = some (row (dpAt (!lev) h (startS h i) t))) ?_ n _ ?_
    · rintro j st ⟨t, idm, hj, h0, h2, h3, h9, hid, hm⟩ next
      by_cases ht : 0 < j
      · simp [go_sem, -List.map_replicate, -List.map_set, -List.map_append, -List.map_reverse, -List.map_take, -List.map_drop, -List.map_tail, -List.any_map, -List.all_map, -List.mapM_map, -List.map_map, h0, h2, h3, h9, hm, ht, slL, zI, w1, e1, c1, c2, c3, zerosI, ldI, szI, setI]
        rw [WL_loop]
        refine WL_rounds (I := fun j' st' => ∃ q : Nat, j' + q = h + 1 ∧ st'.fr 0 = .int .i64 j ∧ st'.fr 2 = .int .i64 h ∧ st'.fr 3 = .bool lev ∧ st'.fr 9 = .sl idm 0 0 (h + 1) ∧ st'.fr 10 = .sl (st.nx + 256) 0 0 (h + 1) ∧ st'.fr 11 = .int .i64 q ∧ st.nx + 256 < st'.nx ∧
          st'.H idm = some (row (dpAt (!lev) h (startS h i) t)) ∧ st'.H (st.nx + 256) = some (row (spreadTo (!lev) h (dpAt (!lev) h (startS h i) t) q))) ?_ (h + 1) _ ?_
        · rintro j' st' ⟨q, hj', g0, g2, g3, g9, g10, g11, gnx, gm, gn⟩ next'
          have hl := dpAt_len (!lev) h (startS h i) (startS_len h i) t
          have hl' := spreadTo_len (!lev) h (dpAt (!lev) h (startS h i) t) q
          have ne1 : ¬ idm = st.nx + 256 := by omega
          have ne2 : ¬ st.nx + 256 = idm := by omega
          by_cases hq : q ≤ h
          · by_cases p0 : 0 < q <;> by_cases ph : q < h <;> cases lev <;> simp only [Bool.not_false, Bool.not_true] at hl hl' gm gn <;>
              simp (maxSteps := 10000000) (disch := (first | omega | (simp only [List.length_set]; omega) | simp)) [go_sem, -List.map_replicate, -List.map_set, -List.map_append, -List.map_reverse, -List.map_take, -List.map_drop, -List.map_tail, -List.any_map, -List.all_map, -List.mapM_map, -List.map_map, if_pos, if_neg, IntWalk.i64_in, setI, getI, rdI_get, rdI_ne, decide_eq_true, decide_eq_false, Int.toNat_natCast, Int.toNat_add, row, g0, g2, g3, g9, g10, g11, gm, gn, ne1, ne2, slL, ldI, szI]
            all_goals repeat' apply And.intro
            all_goals first
              | kernel_rfl
              | (refine next' (j' - 1) _ (by omega) ⟨q + 1, by omega, ?_⟩
                 simp (disch := omega) [upd, rdI_ne, g0, g2, g3, g9, g10, g11, gm, gn, ne1, ne2, row, spreadTo, spread, bump, p0, ph]
                 try omega)
          · simp (maxSteps := 10000000) (disch := (first | omega | (simp only [List.length_set]; omega) | simp)) [go_sem, -List.map_replicate, -List.map_set, -List.map_append, -List.map_reverse, -List.map_take, -List.map_drop, -List.map_tail, -List.any_map, -List.all_map, -List.mapM_map, -List.map_map, if_pos, if_neg, IntWalk.i64_in, setI, getI, rdI_get, rdI_ne, decide_eq_true, decide_eq_false, Int.toNat_natCast, Int.toNat_add, row, g0, g2, g3, g9, g10, g11, gm, gn, ne1, ne2, slL, ldI, szI]
            refine next (j - 1) _ (by omega) ⟨t + 1, st.nx + 256, by omega, ?_⟩
            have eq : q = h + 1 := by omega
            subst eq
            simp [upd, g0, g2, g3, g9, g10, g11, gm, gn, ne1, ne2, row, dpAt]
            omega
        · refine ⟨0, by omega, ?_⟩
          have ne1 : ¬ idm = st.nx + 128 + 128 := by omega
          simp [upd, h0, h2, h3, h9, hm, ne1, row, spreadTo, Nat.add_assoc]
      · have : j = 0 := by omega
        subst this
        have : t = n := by omega
        subst this
        simp [go_sem, -List.map_replicate, -List.map_set, -List.map_append, -List.map_reverse, -List.map_take, -List.map_drop, -List.map_tail, -List.any_map, -List.all_map, -List.mapM_map, -List.map_map, h0, h2, h3, h9, hm, slL]
        have hl := dpAt_len (!lev) h (startS h i) (startS_len h i) t
        have hx := exp_row hm hl.symm
        have he := eid_row (n := h + 1) hm
        simp [Ends, finish, onlyP, ptrU, finFresh, resV, Try.f244, ctL, depth, upd, hx, he, tree_ints, noTup, outs, outA, outC, outsI, outAI, outI, nodupB, normR, normA, normC, oneV, treeN, E0_P]
    · refine ⟨0, 224, by omega, ?_⟩
      simp [upd, row, dpAt, startS, startI, hi]
end Go.Proofs.Ytabnganndcmcnaa.Ev
