/- HeightsOf and ReversePath: both texts and the laws. Conditions: none. -/
import Derived.Test.YtabnganndcmcnaaFnI
import Derived.Test.YtabnganndcmcnaaFnL
set_option linter.unusedSimpArgs false
set_option linter.unusedVariables false
namespace Go.Proofs.Ytabnganndcmcnaa.Ev
open Go Go.Proofs
open List (map_replicate map_set map_append map_reverse map_take map_drop map_tail any_map all_map mapM_map map_map)
set_option maxRecDepth 4000
set_option maxHeartbeats 4000000

def ilist (o : Option (List Int)) : List Int := o.getD []

theorem run_heights (s : ByteArray) (i : Int) (hs : s.size ≤ 1048576) (h0 : 0 ≤ i) (h1 : i ≤ 1048576) :
    runv E0 245 [.str s, .int .i64 i] = some ⟨true, .tup [.uniq 1 (ilist (heightsR s i)).length ((ilist (heightsR s i)).map (V.int .i64)), .bool (heightsR s i).isSome], [.undef, .undef]⟩ := by
  have cdk : codeOk Try.f245.ntmps (Try.f245.body.getD .skip) = true := by kernel_rfl
  refine run_of_WL (fn := Try.f245) rfl Try.func245 rfl ⟨by simp [Try.ntmps245], by simp [wideA, ints], cdk, by simp [Try.f245]⟩ ?_
  have c1 : s.size ≤ 140737488355328 := by omega
  simp [go_sem, -map_replicate, -map_set, -map_append, -map_reverse, -map_take, -map_drop, -map_tail, -any_map, -all_map, -mapM_map, -map_map, slL, szI, ldI, zI, undL, apL, setI, rdI_get, Nat.add_one_le_iff, fillV, zeros1, zeros0, appendD, segV, lvO, goneOf, sliceD, bound, Nat.add_assoc, undS, undB, undU8, isU8T, convD, bytesV_bl, c1]
  rw [WL_loop]
  refine WL_count (I := fun k st => ∃ (cur : Int) (q : List Int) (id ver idb : Nat), st.fr 1 = .int .i64 cur ∧ st.fr 6 = .sl id ver 0 (k + 1) ∧ st.fr 12 = .sl idb 0 0 s.size ∧ st.fr 13 = .int .i64 s.size ∧ st.fr 14 = .int .i64 k ∧ st.H id = some (⟨ver, 2, 1, (i :: q).map (V.int .i64)⟩) ∧ st.H idb = some (⟨0, 2, 1, (bl s).map (V.int .u8)⟩) ∧ id < st.nx ∧ idb < st.nx ∧ idb ≠ id ∧ q.length = k ∧ 0 ≤ cur ∧ cur ≤ i + k ∧ heightsR s i = (hts ((bl s).drop k) cur).map (fun t => i :: (q ++ t))) s.size ?_ ?_ 0 _ (by omega) ?_
  · rintro k st hk ⟨cur, q, id, ver, idb, he0, he1, he2, he3, he4, he5, he6, he7, he8, he9, he10, he11, he12, he13⟩ next
    have hs1 := hts_step hk he13
    have hb : k < (bl s).length := by rw [bl_len]; exact hk
    have hkd : decide (k < s.size) = true := by simpa using hk
    have w1 : IntKind.i64.wrap (cur + 1) = cur + 1 := IntWalk.i64_in _ (by omega)
    have w2 : IntKind.i64.wrap (cur - 1) = cur - 1 := IntWalk.i64_in _ (by omega)
    have w3 : IntKind.i64.wrap ((k : Int) + 1) = (k : Int) + 1 := IntWalk.i64_in _ (by omega)
    have c3 : (k + 2) * 8 ≤ 140737488355328 := by omega
    have hr := getI hb
    have hbi : ¬ id = idb := fun e => he9 e.symm
    generalize rdI (bl s) k = c at hs1 hr
    have fin : ∀ j, 0 ≤ j → j ≤ cur + 1 → heightsR s i = (hts ((bl s).drop (k + 1)) j).map (fun t => i :: ((q ++ [j]) ++ t)) → ∀ st' : St, st'.fr 1 = .int .i64 j → st'.fr 6 = .sl id (ver + 1) 0 (k + 2) → st'.fr 12 = .sl idb 0 0 s.size → st'.fr 13 = .int .i64 s.size →
        st'.fr 14 = .int .i64 ((k : Int) + 1) → st'.H id = some ⟨ver + 1, 2, 1, (i :: (q ++ [j])).map (V.int .i64)⟩ → st'.H idb = some ⟨0, 2, 1, (bl s).map (V.int .u8)⟩ → st.nx ≤ st'.nx → WL E0 false _ _ st' := fun j a1 a2 a3 st' a4 a5 a6 a7 a8 a9 a10 a11 =>
      next st' ⟨j, q ++ [j], id, ver + 1, idb, a4, a5, a6, a7, by rw [a8]; simp, a9, a10, by omega, by omega, he9, by simp [he10], a1, by omega, a3⟩
    by_cases c85 : c = 85
    · subst c85
      have c2 : ¬ cur + 1 < 0 := by omega
      simp [stepH, c2] at hs1
      simp [go_sem, -map_replicate, -map_set, -map_append, -map_reverse, -map_take, -map_drop, -map_tail, -any_map, -all_map, -mapM_map, -map_map, slL, szI, ldI, zI, undL, apL, setI, rdI_get, Nat.add_one_le_iff, fillV, zeros1, zeros0, appendD, segV, lvO, goneOf, sliceD, bound, Nat.add_assoc, he0, he1, he2, he3, he4, he5, he6, hkd, hk, hr, c2, w1, w3, slB, ldB, undB, undS, undU8, ne_new he7, new_ne he7, ne_new he8, he10, c3]
      exact fin (cur + 1) (by omega) (by omega) (by rw [hs1]; simp) _ (by simp [upd]) (by simp [upd]) (by simp [upd, he2]) (by simp [upd, he3]) (by simp [upd]) (by simp [upd]) (by simp [upd, he9, he6, ne_new he8]) (by simp)
    by_cases c68 : c = 68
    · subst c68
      by_cases c2 : cur - 1 < 0
      · simp [stepH, c2] at hs1
        simp [go_sem, -map_replicate, -map_set, -map_append, -map_reverse, -map_take, -map_drop, -map_tail, -any_map, -all_map, -mapM_map, -map_map, slL, szI, ldI, zI, undL, apL, setI, rdI_get, Nat.add_one_le_iff, fillV, zeros1, zeros0, appendD, segV, lvO, goneOf, sliceD, bound, Nat.add_assoc, he0, he1, he2, he3, he4, he5, he6, hkd, hk, hr, c2, w2, slB, ldB, undB, undS, undU8]
        simp [mvcgen_simp, -map_replicate, -map_set, -map_append, -map_reverse, -map_take, -map_drop, -map_tail, -any_map, -all_map, -mapM_map, -map_map, Try.f245, hs1, ctBool, ilist]
      · simp [stepH, c2] at hs1
        simp [go_sem, -map_replicate, -map_set, -map_append, -map_reverse, -map_take, -map_drop, -map_tail, -any_map, -all_map, -mapM_map, -map_map, slL, szI, ldI, zI, undL, apL, setI, rdI_get, Nat.add_one_le_iff, fillV, zeros1, zeros0, appendD, segV, lvO, goneOf, sliceD, bound, Nat.add_assoc, he0, he1, he2, he3, he4, he5, he6, hkd, hk, hr, c2, w2, w3, slB, ldB, undB, undS, undU8, ne_new he7, new_ne he7, ne_new he8, he10, c3]
        exact fin (cur - 1) (by omega) (by omega) (by rw [hs1]; simp) _ (by simp [upd]) (by simp [upd]) (by simp [upd, he2]) (by simp [upd, he3]) (by simp [upd]) (by simp [upd]) (by simp [upd, he9, he6, ne_new he8]) (by simp)
    by_cases c76 : c = 76
    · subst c76
      have c2 : ¬ cur < 0 := by omega
      simp [stepH, c2] at hs1
      simp [go_sem, -map_replicate, -map_set, -map_append, -map_reverse, -map_take, -map_drop, -map_tail, -any_map, -all_map, -mapM_map, -map_map, slL, szI, ldI, zI, undL, apL, setI, rdI_get, Nat.add_one_le_iff, fillV, zeros1, zeros0, appendD, segV, lvO, goneOf, sliceD, bound, Nat.add_assoc, he0, he1, he2, he3, he4, he5, he6, hkd, hk, hr, c2, w3, slB, ldB, undB, undS, undU8, ne_new he7, new_ne he7, ne_new he8, he10, c3]
      exact fin cur (by omega) (by omega) (by rw [hs1]; simp) _ (by simp [upd, he0]) (by simp [upd]) (by simp [upd, he2]) (by simp [upd, he3]) (by simp [upd]) (by simp [upd]) (by simp [upd, he9, he6, ne_new he8]) (by simp)
    · simp [stepH, c85, c68, c76] at hs1
      simp [go_sem, -map_replicate, -map_set, -map_append, -map_reverse, -map_take, -map_drop, -map_tail, -any_map, -all_map, -mapM_map, -map_map, slL, szI, ldI, zI, undL, apL, setI, rdI_get, Nat.add_one_le_iff, fillV, zeros1, zeros0, appendD, segV, lvO, goneOf, sliceD, bound, Nat.add_assoc, he0, he1, he2, he3, he4, he5, he6, hkd, hk, hr, c85, c68, c76, slB, ldB, undB, undS, undU8]
      simp [mvcgen_simp, -map_replicate, -map_set, -map_append, -map_reverse, -map_take, -map_drop, -map_tail, -any_map, -all_map, -mapM_map, -map_map, Try.f245, hs1, ctBool, ilist]
  · rintro st ⟨cur, q, id, ver, idb, he0, he1, he2, he3, he4, he5, he6, he7, he8, he9, he10, he11, he12, he13⟩
    have hd : (bl s).drop s.size = [] := by simp [bl]
    rw [hd] at he13
    simp [hts] at he13
    simp [go_sem, -map_replicate, -map_set, -map_append, -map_reverse, -map_take, -map_drop, -map_tail, -any_map, -all_map, -mapM_map, -map_map, slL, szI, ldI, zI, undL, apL, setI, rdI_get, Nat.add_one_le_iff, fillV, zeros1, zeros0, appendD, segV, lvO, goneOf, sliceD, bound, Nat.add_assoc, he0, he1, he2, he3, he4, he5, he6, undS]
    simp [mvcgen_simp, -map_replicate, -map_set, -map_append, -map_reverse, -map_take, -map_drop, -map_tail, -any_map, -all_map, -mapM_map, -map_map, Try.f245, he0, he1, he2, he3, he4, he5, he6, he13, he10, ctBool, ilist]
  · refine ⟨i, [], _, 0, _, rfl, rfl, rfl, rfl, rfl, rfl, rfl, ?_, ?_, ?_, rfl, h0, by simp, ?_⟩
    · simp
    · simp
    · simp
    · simp [heightsR]

def pathR (s : ByteArray) (i most : Int) : Option (List Int) := if s.size ≤ 24 ∧ 0 ≤ i ∧ i ≤ most then heightsR s i else none

theorem run_pathHeights (s : ByteArray) (i most : Int) (hs : s.size ≤ 1048576) (hm : most ≤ 1048576) :
    runv E0 165 [.str s, .int .i64 i, .int .i64 most] = some ⟨true, .tup [.uniq 1 (ilist (pathR s i most)).length ((ilist (pathR s i most)).map (V.int .i64)), .bool (pathR s i most).isSome], [.undef, .undef, .undef]⟩ := by
  have cdk : codeOk Try.f165.ntmps (Try.f165.body.getD .skip) = true := by kernel_rfl
  refine run_of_WL (fn := Try.f165) rfl Try.func165 rfl ⟨by simp [Try.ntmps165], by simp [wideA, ints], cdk, by simp [Try.f165]⟩ ?_
  by_cases h1 : s.size ≤ 24
  · have h1' : ¬ (s.size : Int) > 24 := by omega
    by_cases h2 : 0 ≤ i ∧ i ≤ most
    · have hr := run_heights s i hs h2.1 (by omega)
      simp [go_sem, -map_replicate, -map_set, -map_append, -map_reverse, -map_take, -map_drop, -map_tail, -any_map, -all_map, -mapM_map, -map_map, slL, szI, ldI, zI, undL, apL, setI, rdI_get, Nat.add_one_le_iff, fillV, zeros1, zeros0, appendD, segV, lvO, goneOf, sliceD, bound, Nat.add_assoc, undS, h1, h1', run_within, h2.1, h2.2, hr]
      simp [mvcgen_simp, -map_replicate, -map_set, -map_append, -map_reverse, -map_take, -map_drop, -map_tail, -any_map, -all_map, -mapM_map, -map_map, Try.f165, pathR, h1, h2.1, h2.2]
    · have h3 : (decide (0 ≤ i) && decide (i ≤ most)) = false := by simpa using h2
      simp [go_sem, -map_replicate, -map_set, -map_append, -map_reverse, -map_take, -map_drop, -map_tail, -any_map, -all_map, -mapM_map, -map_map, slL, szI, ldI, zI, undL, apL, setI, rdI_get, Nat.add_one_le_iff, fillV, zeros1, zeros0, appendD, segV, lvO, goneOf, sliceD, bound, Nat.add_assoc, undS, h1, h1', run_within, h3]
      simp [mvcgen_simp, -map_replicate, -map_set, -map_append, -map_reverse, -map_take, -map_drop, -map_tail, -any_map, -all_map, -mapM_map, -map_map, Try.f165, pathR, h1, h2, ilist]
  · have h1' : (s.size : Int) > 24 := by omega
    simp [go_sem, -map_replicate, -map_set, -map_append, -map_reverse, -map_take, -map_drop, -map_tail, -any_map, -all_map, -mapM_map, -map_map, slL, szI, ldI, zI, undL, apL, setI, rdI_get, Nat.add_one_le_iff, fillV, zeros1, zeros0, appendD, segV, lvO, goneOf, sliceD, bound, Nat.add_assoc, undS, h1', run_within]
    simp [mvcgen_simp, -map_replicate, -map_set, -map_append, -map_reverse, -map_take, -map_drop, -map_tail, -any_map, -all_map, -mapM_map, -map_map, Try.f165, pathR, h1, ilist]

/-- HeightsOf's error. -/
def codeH (o : Option (List Int)) : Int := if o.isSome then 0 else 2

theorem run_implHeightsOf (s : ByteArray) (i : Int) (hs : s.size ≤ 1048576) :
    runv E0 41 [.str s, .int .i64 i] = some ⟨true, .tup [.uniq 1 (ilist (pathR s i 24)).length ((ilist (pathR s i 24)).map (V.int .i64)), .int .i64 (codeH (pathR s i 24))], [.undef, .undef]⟩ := by
  have cdk : codeOk Try.f41.ntmps (Try.f41.body.getD .skip) = true := by kernel_rfl
  refine run_of_WL (fn := Try.f41) rfl Try.func41 rfl ⟨by simp [Try.ntmps41], by simp [wideA, ints], cdk, by simp [Try.f41]⟩ ?_
  have hr := run_pathHeights s i 24 hs (by omega)
  cases ho : pathR s i 24 with
  | none =>
    rw [ho] at hr
    simp [go_sem, -map_replicate, -map_set, -map_append, -map_reverse, -map_take, -map_drop, -map_tail, -any_map, -all_map, -mapM_map, -map_map, slL, szI, ldI, zI, undL, apL, setI, rdI_get, Nat.add_one_le_iff, fillV, zeros1, zeros0, appendD, segV, lvO, goneOf, sliceD, bound, Nat.add_assoc, hr]
    simp [mvcgen_simp, -map_replicate, -map_set, -map_append, -map_reverse, -map_take, -map_drop, -map_tail, -any_map, -all_map, -mapM_map, -map_map, Try.f41, ilist, codeH]
  | some l =>
    rw [ho] at hr
    simp [go_sem, -map_replicate, -map_set, -map_append, -map_reverse, -map_take, -map_drop, -map_tail, -any_map, -all_map, -mapM_map, -map_map, slL, szI, ldI, zI, undL, apL, setI, rdI_get, Nat.add_one_le_iff, fillV, zeros1, zeros0, appendD, segV, lvO, goneOf, sliceD, bound, Nat.add_assoc, hr]
    simp [mvcgen_simp, -map_replicate, -map_set, -map_append, -map_reverse, -map_take, -map_drop, -map_tail, -any_map, -all_map, -mapM_map, -map_map, Try.f41, ilist, codeH]

theorem in24 {i : Int} : (decide (0 ≤ i) && decide (i ≤ 24)) = decide (0 ≤ i ∧ i ≤ 24) := by
  by_cases h : 0 ≤ i <;> simp [h]

theorem run_specHeightsOf (s : ByteArray) (i : Int) (hs : s.size ≤ 1048576) :
    runv E0 56 [.str s, .int .i64 i] = some ⟨true, .tup [.uniq 1 (ilist (pathR s i 24)).length ((ilist (pathR s i 24)).map (V.int .i64)), .int .i64 (codeH (pathR s i 24))], [.undef, .undef]⟩ := by
  have cdk : codeOk Try.f56.ntmps (Try.f56.body.getD .skip) = true := by kernel_rfl
  refine run_of_WL (fn := Try.f56) rfl Try.func56 rfl ⟨by simp [Try.ntmps56], by simp [wideA, ints], cdk, by simp [Try.f56]⟩ ?_
  by_cases h2 : 0 ≤ i ∧ i ≤ 24
  · have hr := run_l09Heights s i hs h2.1 (by omega)
    have hi := run_l01In' i 0 24
    rw [in24, decide_eq_true h2] at hi
    by_cases h1 : s.size ≤ 24
    · cases ho : heightsR s i with
      | none =>
        rw [ho] at hr
        simp [go_sem, -map_replicate, -map_set, -map_append, -map_reverse, -map_take, -map_drop, -map_tail, -any_map, -all_map, -mapM_map, -map_map, slL, szI, ldI, zI, undL, apL, setI, rdI_get, Nat.add_one_le_iff, fillV, zeros1, zeros0, appendD, segV, lvO, goneOf, sliceD, bound, Nat.add_assoc, hr, hi, h1]
        simp [mvcgen_simp, -map_replicate, -map_set, -map_append, -map_reverse, -map_take, -map_drop, -map_tail, -any_map, -all_map, -mapM_map, -map_map, Try.f56, pathR, h1, h2.1, h2.2, ho, ilist, codeH]
      | some l =>
        rw [ho] at hr
        simp [go_sem, -map_replicate, -map_set, -map_append, -map_reverse, -map_take, -map_drop, -map_tail, -any_map, -all_map, -mapM_map, -map_map, slL, szI, ldI, zI, undL, apL, setI, rdI_get, Nat.add_one_le_iff, fillV, zeros1, zeros0, appendD, segV, lvO, goneOf, sliceD, bound, Nat.add_assoc, hr, hi, h1]
        simp [mvcgen_simp, -map_replicate, -map_set, -map_append, -map_reverse, -map_take, -map_drop, -map_tail, -any_map, -all_map, -mapM_map, -map_map, Try.f56, pathR, h1, h2.1, h2.2, ho, ilist, codeH]
    · simp [go_sem, -map_replicate, -map_set, -map_append, -map_reverse, -map_take, -map_drop, -map_tail, -any_map, -all_map, -mapM_map, -map_map, slL, szI, ldI, zI, undL, apL, setI, rdI_get, Nat.add_one_le_iff, fillV, zeros1, zeros0, appendD, segV, lvO, goneOf, sliceD, bound, Nat.add_assoc, hr, hi, h1]
      simp [mvcgen_simp, -map_replicate, -map_set, -map_append, -map_reverse, -map_take, -map_drop, -map_tail, -any_map, -all_map, -mapM_map, -map_map, Try.f56, pathR, h1, ilist, codeH]
  · have hi := run_l01In' i 0 24
    rw [in24, decide_eq_false h2] at hi
    simp [go_sem, -map_replicate, -map_set, -map_append, -map_reverse, -map_take, -map_drop, -map_tail, -any_map, -all_map, -mapM_map, -map_map, slL, szI, ldI, zI, undL, apL, setI, rdI_get, Nat.add_one_le_iff, fillV, zeros1, zeros0, appendD, segV, lvO, goneOf, sliceD, bound, Nat.add_assoc, hi]
    simp [mvcgen_simp, -map_replicate, -map_set, -map_append, -map_reverse, -map_take, -map_drop, -map_tail, -any_map, -all_map, -mapM_map, -map_map, Try.f56, pathR, h2, ilist, codeH]

theorem pathR_len (s : ByteArray) (i most : Int) : (ilist (pathR s i most)).length ≤ 25 := by
  unfold pathR ilist
  split
  · rename_i h
    unfold heightsR
    cases hh : hts (bl s) i with
    | none => simp
    | some q =>
      have := hts_len _ _ _ hh
      rw [bl_len] at this
      simp; omega
  · simp

end Go.Proofs.Ytabnganndcmcnaa.Ev
