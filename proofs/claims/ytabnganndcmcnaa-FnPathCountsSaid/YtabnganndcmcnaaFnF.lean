/- BallotNumber: the program's text, the law, and that both agree. Conditions: none. -/
import Derived.Test.YtabnganndcmcnaaFnE
set_option linter.unusedSimpArgs false
set_option linter.unusedVariables false
namespace Go.Proofs.Ytabnganndcmcnaa.Ev
open Go Go.Proofs
set_option maxRecDepth 4000
set_option maxHeartbeats 4000000

/-! ### The plain law: paths of at most 24 steps do not see a ceiling of 24. -/
def agree : Nat → List Int → List Int → Bool
  | 0, a, b => decide (a = b.take 25)
  | t + 1, a, b => decide (a = b.take 25) && agree t (spreadTo false 24 a 25) (spreadTo false 48 b 49)
theorem agree_at : ∀ (t : Nat) (a b : List Int), agree t a b = true → ∀ n, n ≤ t → dpAt false 24 a n = (dpAt false 48 b n).take 25 := by
  have step : ∀ (h : Nat) (a : List Int) (n : Nat), dpAt false h a (n + 1) = dpAt false h (spreadTo false h a (h + 1)) n := by
    intro h a n
    induction n with
    | zero => rfl
    | succ n ih => rw [dpAt, ih]; rfl
  intro t
  induction t with
  | zero =>
    intro a b h n hn
    obtain rfl : n = 0 := by omega
    simpa [agree, dpAt] using h
  | succ t ih =>
    intro a b h n hn
    simp only [agree, Bool.and_eq_true, decide_eq_true_eq] at h
    match n with
    | 0 => exact h.1
    | n + 1 =>
      rw [step, step]
      exact ih _ _ h.2 n (by omega)
set_option maxRecDepth 100000 in
theorem agreed : agree 24 (startS 24 0) (startI 48 0) = true := by decide +kernel
theorem ballots (n k : Nat) (hn : n ≤ 24) (hk : k ≤ 24) : rdI (dpAt false 24 (startS 24 0) n) k = rdI (dpAt false 48 (startI 48 0) n) k := by
  rw [agree_at 24 _ _ agreed n hn]
  unfold rdI
  simp [List.getD_eq_getElem?_getD, List.getElem?_take, show k < 25 by omega]

theorem zeros2 : zerosV 2 [V.int .i64 0] = [.int .i64 0, .int .i64 0] := rfl

theorem run_implBallot (n k : Int) : runv E0 46 [.int .i64 n, .int .i64 k] = some ⟨true, .tup [.int .i64 (ballot n k).1, .int .i64 (ballot n k).2], [.undef, .undef]⟩ := by
  have cdk : codeOk Try.f46.ntmps (Try.f46.body.getD .skip) = true := by kernel_rfl
  refine run_of_WL (fn := Try.f46) rfl Try.func46 rfl ⟨by simp [Try.ntmps46], by simp [wideA, ints], cdk, by simp [Try.f46]⟩ ?_
  have hc := run_areCounted [n, k] (by simp)
  rw [show ([n, k].all fun n => decide (0 ≤ n) && decide (n ≤ 24)) = (counted n && counted k) by simp [counted]] at hc
  cases hb : (counted n && counted k) with
  | false =>
    have hb' : ballot n k = (0, 2) := by simp only [ballot, hb]; rfl
    rw [hb] at hc
    unfold ints at hc
    simp at hc
    simp [go_sem, -List.map_replicate, -List.map_set, -List.map_append, -List.map_reverse, -List.map_take, -List.map_drop, -List.map_tail, -List.any_map, -List.all_map, -List.mapM_map, -List.map_map, slL, szI, zI, zeros2, fillV, setCs, hc]
    simp [Ends, finish, onlyP, finPtr, anyU, ptrU, ownI, isLR, finFresh, finRead, resV, expN, treeN, eidN, outs, outA, outC, outL, outsI, outAI, outI, outIL, nodupB, depth, normR, normA, normL, normC, noTup, oneV, purN, idsN, upd, E0_P, E1_P, E2_P, mkSt_fr, mkSt_H, mkSt_nx, mkSt_rs, lookF, flatO, disjN, getO, mapM_purN_int, mapM_expN_int, flatMap_idsN_int, flatMap_eidN_int, any_hasU_int, all_treeN_int, mapM_purN_str, mapM_expN_str, flatMap_idsN_str, flatMap_eidN_str, any_hasU_str, all_treeN_str, ctBool, ctInt, ctI64, ctL, take_map_full, -List.map_replicate, -List.map_set, -List.map_append, -List.map_reverse, -List.map_take, -List.map_drop, -List.map_tail, -List.any_map, -List.all_map, -List.mapM_map, -List.map_map, Try.f46, ctI64, hb']
  | true =>
    have hb' : ballot n k = (rdI (dpAt false 24 (startS 24 0) n.toNat) k.toNat, 0) := by simp only [ballot, hb]; rfl
    rw [hb] at hc
    unfold ints at hc
    simp only [Bool.and_eq_true] at hb
    obtain ⟨m, rfl, hm⟩ := counted_nat hb.1
    obtain ⟨q, rfl, hq⟩ := counted_nat hb.2
    have hr := run_countPaths m 0 q 48 false (by omega) (by omega)
    have hq' : ¬ 48 < q := by omega
    have he := ballots m q hm hq
    simp at hc hr
    simp [go_sem, -List.map_replicate, -List.map_set, -List.map_append, -List.map_reverse, -List.map_take, -List.map_drop, -List.map_tail, -List.any_map, -List.all_map, -List.mapM_map, -List.map_map, slL, szI, zI, zeros2, fillV, setCs, hc, hr, hq']
    simp [Ends, finish, onlyP, finPtr, anyU, ptrU, ownI, isLR, finFresh, finRead, resV, expN, treeN, eidN, outs, outA, outC, outL, outsI, outAI, outI, outIL, nodupB, depth, normR, normA, normL, normC, noTup, oneV, purN, idsN, upd, E0_P, E1_P, E2_P, mkSt_fr, mkSt_H, mkSt_nx, mkSt_rs, lookF, flatO, disjN, getO, mapM_purN_int, mapM_expN_int, flatMap_idsN_int, flatMap_eidN_int, any_hasU_int, all_treeN_int, mapM_purN_str, mapM_expN_str, flatMap_idsN_str, flatMap_eidN_str, any_hasU_str, all_treeN_str, ctBool, ctInt, ctI64, ctL, take_map_full, -List.map_replicate, -List.map_set, -List.map_append, -List.map_reverse, -List.map_take, -List.map_drop, -List.map_tail, -List.any_map, -List.all_map, -List.mapM_map, -List.map_map, Try.f46, ctI64, hb', he]

end Go.Proofs.Ytabnganndcmcnaa.Ev
