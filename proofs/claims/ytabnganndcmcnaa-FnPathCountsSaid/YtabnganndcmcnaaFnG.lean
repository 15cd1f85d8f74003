/- CountPaths and CountLevelPaths: both texts, the laws, and that they agree. Conditions: none. -/
import Derived.Test.YtabnganndcmcnaaFnF
set_option linter.unusedSimpArgs false
set_option linter.unusedVariables false
namespace Go.Proofs.Ytabnganndcmcnaa.Ev
open Go Go.Proofs
set_option maxRecDepth 4000
set_option maxHeartbeats 4000000

/-! ### The plain law: from a height above the ceiling nothing comes. -/
theorem rdI_zerosG (n k : Nat) : rdI (List.replicate n 0) k = 0 := by
  unfold rdI; simp [List.getD_eq_getElem?_getD, List.getElem?_replicate]; split <;> rfl
theorem bump_zeros (n i : Nat) : bump (List.replicate n 0) i 0 = List.replicate n 0 := by
  unfold bump
  rw [rdI_zerosG]
  apply List.ext_getElem
  · simp
  · intro j h1 h2
    rw [List.getElem_set]; simp; intro _; rfl
theorem spread_zeros (lev : Bool) (h k n : Nat) : spread lev h k 0 (List.replicate n 0) = List.replicate n 0 := by
  unfold spread; cases lev <;> simp [bump_zeros]
theorem spreadTo_zeros (lev : Bool) (h : Nat) : ∀ k, spreadTo lev h (List.replicate (h + 1) 0) k = List.replicate (h + 1) 0
  | 0 => rfl
  | k + 1 => by rw [spreadTo, rdI_zerosG, spreadTo_zeros lev h k, spread_zeros]
theorem dpAt_zeros (lev : Bool) (h : Nat) : ∀ t, dpAt lev h (List.replicate (h + 1) 0) t = List.replicate (h + 1) 0
  | 0 => rfl
  | t + 1 => by rw [dpAt, dpAt_zeros lev h t, spreadTo_zeros]
theorem counts_agree (lev : Bool) (n i k h : Nat) : (if h < i ∨ h < k then 0 else rdI (dpAt lev h (startI h i) n) k) = (if h < k then 0 else rdI (dpAt lev h (startS h i) n) k) := by
  by_cases hk : h < k
  · simp [hk]
  · by_cases hi : h < i
    · have : ¬ i ≤ h := by omega
      simp [hk, hi, startS, this, dpAt_zeros, rdI_zerosG]
    · have : i ≤ h := by omega
      simp [hk, hi, startS, this]

def given (n i k h : Int) : Bool := counted n && counted i && counted k && counted h
def counting (lev : Bool) (n i k h : Int) : Int × Int :=
  if given n i k h then (if h.toNat < k.toNat then 0 else rdI (dpAt lev h.toNat (startS h.toNat i.toNat) n.toNat) k.toNat, 0) else (0, 2)

theorem run_l09Given (n i k h : Int) : runv E0 162 [.int .i64 n, .int .i64 i, .int .i64 k, .int .i64 h] = some ⟨true, .bool (given n i k h), [.undef, .undef, .undef, .undef]⟩ := by
  have cdk : codeOk Try.f162.ntmps (Try.f162.body.getD .skip) = true := by kernel_rfl
  refine run_of_WL (fn := Try.f162) rfl Try.func162 rfl ⟨by simp [Try.ntmps162], by simp [wideA, ints], cdk, by simp [Try.f162]⟩ ?_
  have e : ∀ x, counted x = (decide (0 ≤ x) && decide (x ≤ 24)) := fun _ => rfl
  cases h1 : counted n <;> cases h2 : counted i <;> cases h3 : counted k <;> rw [e] at h1 h2 h3 <;> simp [go_sem, -List.map_replicate, -List.map_set, -List.map_append, -List.map_reverse, -List.map_take, -List.map_drop, -List.map_tail, -List.any_map, -List.all_map, -List.mapM_map, -List.map_map, run_l01In, h1, h2, h3] <;> simp [Ends, finish, onlyP, finPtr, anyU, ptrU, ownI, isLR, finFresh, finRead, resV, expN, treeN, eidN, outs, outA, outC, outL, outsI, outAI, outI, outIL, nodupB, depth, normR, normA, normL, normC, noTup, oneV, purN, idsN, upd, E0_P, E1_P, E2_P, mkSt_fr, mkSt_H, mkSt_nx, mkSt_rs, lookF, flatO, disjN, getO, mapM_purN_int, mapM_expN_int, flatMap_idsN_int, flatMap_eidN_int, any_hasU_int, all_treeN_int, mapM_purN_str, mapM_expN_str, flatMap_idsN_str, flatMap_eidN_str, any_hasU_str, all_treeN_str, ctBool, ctInt, ctI64, ctL, take_map_full, -List.map_replicate, -List.map_set, -List.map_append, -List.map_reverse, -List.map_take, -List.map_drop, -List.map_tail, -List.any_map, -List.all_map, -List.mapM_map, -List.map_map, Try.f162, given, e, h1, h2, h3]

theorem run_specCountPaths (n i k h : Int) : runv E0 52 [.int .i64 n, .int .i64 i, .int .i64 k, .int .i64 h] = some ⟨true, .tup [.int .i64 (counting true n i k h).1, .int .i64 (counting true n i k h).2], [.undef, .undef, .undef, .undef]⟩ := by
  have cdk : codeOk Try.f52.ntmps (Try.f52.body.getD .skip) = true := by kernel_rfl
  refine run_of_WL (fn := Try.f52) rfl Try.func52 rfl ⟨by simp [Try.ntmps52], by simp [wideA, ints], cdk, by simp [Try.f52]⟩ ?_
  cases hg : given n i k h with
  | false =>
    simp [go_sem, -List.map_replicate, -List.map_set, -List.map_append, -List.map_reverse, -List.map_take, -List.map_drop, -List.map_tail, -List.any_map, -List.all_map, -List.mapM_map, -List.map_map, run_l09Given, hg]
    simp [Ends, finish, onlyP, finPtr, anyU, ptrU, ownI, isLR, finFresh, finRead, resV, expN, treeN, eidN, outs, outA, outC, outL, outsI, outAI, outI, outIL, nodupB, depth, normR, normA, normL, normC, noTup, oneV, purN, idsN, upd, E0_P, E1_P, E2_P, mkSt_fr, mkSt_H, mkSt_nx, mkSt_rs, lookF, flatO, disjN, getO, mapM_purN_int, mapM_expN_int, flatMap_idsN_int, flatMap_eidN_int, any_hasU_int, all_treeN_int, mapM_purN_str, mapM_expN_str, flatMap_idsN_str, flatMap_eidN_str, any_hasU_str, all_treeN_str, ctBool, ctInt, ctI64, ctL, take_map_full, -List.map_replicate, -List.map_set, -List.map_append, -List.map_reverse, -List.map_take, -List.map_drop, -List.map_tail, -List.any_map, -List.all_map, -List.mapM_map, -List.map_map, Try.f52, counting, hg]
  | true =>
    have hg' := hg
    simp only [given, Bool.and_eq_true] at hg'
    obtain ⟨n, rfl, hn⟩ := counted_nat hg'.1.1.1
    obtain ⟨i, rfl, hi⟩ := counted_nat hg'.1.1.2
    obtain ⟨k, rfl, hk⟩ := counted_nat hg'.1.2
    obtain ⟨h, rfl, hh⟩ := counted_nat hg'.2
    have hr := run_l09Count n i k h false (by omega) (by omega) (by omega)
    have hr2 := run_l09Count n i k h true (by omega) (by omega) (by omega)
    simp [go_sem, -List.map_replicate, -List.map_set, -List.map_append, -List.map_reverse, -List.map_take, -List.map_drop, -List.map_tail, -List.any_map, -List.all_map, -List.mapM_map, -List.map_map, run_l09Given, hg, hr, hr2]
    simp [Ends, finish, onlyP, finPtr, anyU, ptrU, ownI, isLR, finFresh, finRead, resV, expN, treeN, eidN, outs, outA, outC, outL, outsI, outAI, outI, outIL, nodupB, depth, normR, normA, normL, normC, noTup, oneV, purN, idsN, upd, E0_P, E1_P, E2_P, mkSt_fr, mkSt_H, mkSt_nx, mkSt_rs, lookF, flatO, disjN, getO, mapM_purN_int, mapM_expN_int, flatMap_idsN_int, flatMap_eidN_int, any_hasU_int, all_treeN_int, mapM_purN_str, mapM_expN_str, flatMap_idsN_str, flatMap_eidN_str, any_hasU_str, all_treeN_str, ctBool, ctInt, ctI64, ctL, take_map_full, -List.map_replicate, -List.map_set, -List.map_append, -List.map_reverse, -List.map_take, -List.map_drop, -List.map_tail, -List.any_map, -List.all_map, -List.mapM_map, -List.map_map, Try.f52, counting, hg]
theorem run_specCountLevelPaths (n i k h : Int) : runv E0 54 [.int .i64 n, .int .i64 i, .int .i64 k, .int .i64 h] = some ⟨true, .tup [.int .i64 (counting false n i k h).1, .int .i64 (counting false n i k h).2], [.undef, .undef, .undef, .undef]⟩ := by
  have cdk : codeOk Try.f54.ntmps (Try.f54.body.getD .skip) = true := by kernel_rfl
  refine run_of_WL (fn := Try.f54) rfl Try.func54 rfl ⟨by simp [Try.ntmps54], by simp [wideA, ints], cdk, by simp [Try.f54]⟩ ?_
  cases hg : given n i k h with
  | false =>
    simp [go_sem, -List.map_replicate, -List.map_set, -List.map_append, -List.map_reverse, -List.map_take, -List.map_drop, -List.map_tail, -List.any_map, -List.all_map, -List.mapM_map, -List.map_map, run_l09Given, hg]
    simp [Ends, finish, onlyP, finPtr, anyU, ptrU, ownI, isLR, finFresh, finRead, resV, expN, treeN, eidN, outs, outA, outC, outL, outsI, outAI, outI, outIL, nodupB, depth, normR, normA, normL, normC, noTup, oneV, purN, idsN, upd, E0_P, E1_P, E2_P, mkSt_fr, mkSt_H, mkSt_nx, mkSt_rs, lookF, flatO, disjN, getO, mapM_purN_int, mapM_expN_int, flatMap_idsN_int, flatMap_eidN_int, any_hasU_int, all_treeN_int, mapM_purN_str, mapM_expN_str, flatMap_idsN_str, flatMap_eidN_str, any_hasU_str, all_treeN_str, ctBool, ctInt, ctI64, ctL, take_map_full, -List.map_replicate, -List.map_set, -List.map_append, -List.map_reverse, -List.map_take, -List.map_drop, -List.map_tail, -List.any_map, -List.all_map, -List.mapM_map, -List.map_map, Try.f54, counting, hg]
  | true =>
    have hg' := hg
    simp only [given, Bool.and_eq_true] at hg'
    obtain ⟨n, rfl, hn⟩ := counted_nat hg'.1.1.1
    obtain ⟨i, rfl, hi⟩ := counted_nat hg'.1.1.2
    obtain ⟨k, rfl, hk⟩ := counted_nat hg'.1.2
    obtain ⟨h, rfl, hh⟩ := counted_nat hg'.2
    have hr := run_l09Count n i k h false (by omega) (by omega) (by omega)
    have hr2 := run_l09Count n i k h true (by omega) (by omega) (by omega)
    simp [go_sem, -List.map_replicate, -List.map_set, -List.map_append, -List.map_reverse, -List.map_take, -List.map_drop, -List.map_tail, -List.any_map, -List.all_map, -List.mapM_map, -List.map_map, run_l09Given, hg, hr, hr2]
    simp [Ends, finish, onlyP, finPtr, anyU, ptrU, ownI, isLR, finFresh, finRead, resV, expN, treeN, eidN, outs, outA, outC, outL, outsI, outAI, outI, outIL, nodupB, depth, normR, normA, normL, normC, noTup, oneV, purN, idsN, upd, E0_P, E1_P, E2_P, mkSt_fr, mkSt_H, mkSt_nx, mkSt_rs, lookF, flatO, disjN, getO, mapM_purN_int, mapM_expN_int, flatMap_idsN_int, flatMap_eidN_int, any_hasU_int, all_treeN_int, mapM_purN_str, mapM_expN_str, flatMap_idsN_str, flatMap_eidN_str, any_hasU_str, all_treeN_str, ctBool, ctInt, ctI64, ctL, take_map_full, -List.map_replicate, -List.map_set, -List.map_append, -List.map_reverse, -List.map_take, -List.map_drop, -List.map_tail, -List.any_map, -List.all_map, -List.mapM_map, -List.map_map, Try.f54, counting, hg]

theorem zeros4 : zerosV 4 [V.int .i64 0] = [.int .i64 0, .int .i64 0, .int .i64 0, .int .i64 0] := rfl
theorem areCounted4 (n i k h : Int) : runv E0 159 [.list 4 [.int .i64 n, .int .i64 i, .int .i64 k, .int .i64 h]] = some ⟨true, .bool (given n i k h), [.undef]⟩ := by
  have := run_areCounted [n, i, k, h] (by simp)
  unfold ints at this
  simp only [List.map_cons, List.map_nil, List.length_cons, List.length_nil] at this
  rw [this]
  simp [given, counted, Bool.and_assoc]

theorem run_implCountPaths (n i k h : Int) : runv E0 39 [.int .i64 n, .int .i64 i, .int .i64 k, .int .i64 h] = some ⟨true, .tup [.int .i64 (counting true n i k h).1, .int .i64 (counting true n i k h).2], [.undef, .undef, .undef, .undef]⟩ := by
  have cdk : codeOk Try.f39.ntmps (Try.f39.body.getD .skip) = true := by kernel_rfl
  refine run_of_WL (fn := Try.f39) rfl Try.func39 rfl ⟨by simp [Try.ntmps39], by simp [wideA, ints], cdk, by simp [Try.f39]⟩ ?_
  cases hg : given n i k h with
  | false =>
    simp [go_sem, -List.map_replicate, -List.map_set, -List.map_append, -List.map_reverse, -List.map_take, -List.map_drop, -List.map_tail, -List.any_map, -List.all_map, -List.mapM_map, -List.map_map, slL, szI, zI, zeros4, fillV, setCs, areCounted4, hg]
    simp [Ends, finish, onlyP, finPtr, anyU, ptrU, ownI, isLR, finFresh, finRead, resV, expN, treeN, eidN, outs, outA, outC, outL, outsI, outAI, outI, outIL, nodupB, depth, normR, normA, normL, normC, noTup, oneV, purN, idsN, upd, E0_P, E1_P, E2_P, mkSt_fr, mkSt_H, mkSt_nx, mkSt_rs, lookF, flatO, disjN, getO, mapM_purN_int, mapM_expN_int, flatMap_idsN_int, flatMap_eidN_int, any_hasU_int, all_treeN_int, mapM_purN_str, mapM_expN_str, flatMap_idsN_str, flatMap_eidN_str, any_hasU_str, all_treeN_str, ctBool, ctInt, ctI64, ctL, take_map_full, -List.map_replicate, -List.map_set, -List.map_append, -List.map_reverse, -List.map_take, -List.map_drop, -List.map_tail, -List.any_map, -List.all_map, -List.mapM_map, -List.map_map, Try.f39, counting, hg]
  | true =>
    have hg' := hg
    simp only [given, Bool.and_eq_true] at hg'
    obtain ⟨n, rfl, hn⟩ := counted_nat hg'.1.1.1
    obtain ⟨i, rfl, hi⟩ := counted_nat hg'.1.1.2
    obtain ⟨k, rfl, hk⟩ := counted_nat hg'.1.2
    obtain ⟨h, rfl, hh⟩ := counted_nat hg'.2
    have hr := fun lev => run_countPaths n i k h lev (by omega) (by omega)
    simp [go_sem, -List.map_replicate, -List.map_set, -List.map_append, -List.map_reverse, -List.map_take, -List.map_drop, -List.map_tail, -List.any_map, -List.all_map, -List.mapM_map, -List.map_map, slL, szI, zI, zeros4, fillV, setCs, areCounted4, hg, hr]
    simp [Ends, finish, onlyP, finPtr, anyU, ptrU, ownI, isLR, finFresh, finRead, resV, expN, treeN, eidN, outs, outA, outC, outL, outsI, outAI, outI, outIL, nodupB, depth, normR, normA, normL, normC, noTup, oneV, purN, idsN, upd, E0_P, E1_P, E2_P, mkSt_fr, mkSt_H, mkSt_nx, mkSt_rs, lookF, flatO, disjN, getO, mapM_purN_int, mapM_expN_int, flatMap_idsN_int, flatMap_eidN_int, any_hasU_int, all_treeN_int, mapM_purN_str, mapM_expN_str, flatMap_idsN_str, flatMap_eidN_str, any_hasU_str, all_treeN_str, ctBool, ctInt, ctI64, ctL, take_map_full, -List.map_replicate, -List.map_set, -List.map_append, -List.map_reverse, -List.map_take, -List.map_drop, -List.map_tail, -List.any_map, -List.all_map, -List.mapM_map, -List.map_map, Try.f39, counting, hg, counts_agree]
theorem run_implCountLevelPaths (n i k h : Int) : runv E0 40 [.int .i64 n, .int .i64 i, .int .i64 k, .int .i64 h] = some ⟨true, .tup [.int .i64 (counting false n i k h).1, .int .i64 (counting false n i k h).2], [.undef, .undef, .undef, .undef]⟩ := by
  have cdk : codeOk Try.f40.ntmps (Try.f40.body.getD .skip) = true := by kernel_rfl
  refine run_of_WL (fn := Try.f40) rfl Try.func40 rfl ⟨by simp [Try.ntmps40], by simp [wideA, ints], cdk, by simp [Try.f40]⟩ ?_
  cases hg : given n i k h with
  | false =>
    simp [go_sem, -List.map_replicate, -List.map_set, -List.map_append, -List.map_reverse, -List.map_take, -List.map_drop, -List.map_tail, -List.any_map, -List.all_map, -List.mapM_map, -List.map_map, slL, szI, zI, zeros4, fillV, setCs, areCounted4, hg]
    simp [Ends, finish, onlyP, finPtr, anyU, ptrU, ownI, isLR, finFresh, finRead, resV, expN, treeN, eidN, outs, outA, outC, outL, outsI, outAI, outI, outIL, nodupB, depth, normR, normA, normL, normC, noTup, oneV, purN, idsN, upd, E0_P, E1_P, E2_P, mkSt_fr, mkSt_H, mkSt_nx, mkSt_rs, lookF, flatO, disjN, getO, mapM_purN_int, mapM_expN_int, flatMap_idsN_int, flatMap_eidN_int, any_hasU_int, all_treeN_int, mapM_purN_str, mapM_expN_str, flatMap_idsN_str, flatMap_eidN_str, any_hasU_str, all_treeN_str, ctBool, ctInt, ctI64, ctL, take_map_full, -List.map_replicate, -List.map_set, -List.map_append, -List.map_reverse, -List.map_take, -List.map_drop, -List.map_tail, -List.any_map, -List.all_map, -List.mapM_map, -List.map_map, Try.f40, counting, hg]
  | true =>
    have hg' := hg
    simp only [given, Bool.and_eq_true] at hg'
    obtain ⟨n, rfl, hn⟩ := counted_nat hg'.1.1.1
    obtain ⟨i, rfl, hi⟩ := counted_nat hg'.1.1.2
    obtain ⟨k, rfl, hk⟩ := counted_nat hg'.1.2
    obtain ⟨h, rfl, hh⟩ := counted_nat hg'.2
    have hr := fun lev => run_countPaths n i k h lev (by omega) (by omega)
    simp [go_sem, -List.map_replicate, -List.map_set, -List.map_append, -List.map_reverse, -List.map_take, -List.map_drop, -List.map_tail, -List.any_map, -List.all_map, -List.mapM_map, -List.map_map, slL, szI, zI, zeros4, fillV, setCs, areCounted4, hg, hr]
    simp [Ends, finish, onlyP, finPtr, anyU, ptrU, ownI, isLR, finFresh, finRead, resV, expN, treeN, eidN, outs, outA, outC, outL, outsI, outAI, outI, outIL, nodupB, depth, normR, normA, normL, normC, noTup, oneV, purN, idsN, upd, E0_P, E1_P, E2_P, mkSt_fr, mkSt_H, mkSt_nx, mkSt_rs, lookF, flatO, disjN, getO, mapM_purN_int, mapM_expN_int, flatMap_idsN_int, flatMap_eidN_int, any_hasU_int, all_treeN_int, mapM_purN_str, mapM_expN_str, flatMap_idsN_str, flatMap_eidN_str, any_hasU_str, all_treeN_str, ctBool, ctInt, ctI64, ctL, take_map_full, -List.map_replicate, -List.map_set, -List.map_append, -List.map_reverse, -List.map_take, -List.map_drop, -List.map_tail, -List.any_map, -List.all_map, -List.mapM_map, -List.map_map, Try.f40, counting, hg, counts_agree]

end Go.Proofs.Ytabnganndcmcnaa.Ev
