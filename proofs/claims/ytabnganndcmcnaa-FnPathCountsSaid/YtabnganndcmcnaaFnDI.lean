/- The law of path counts. Conditions: none. -/
import Derived.Test.YtabnganndcmcnaaFnDG
import Derived.Test.YtabnganndcmcnaaFnDH
import Derived.Test.YtabnganndcmcnaaFnDF
import Derived.Test.YtabnganndcmcnaaFnBT
set_option linter.unusedSimpArgs false
set_option linter.unusedVariables false
namespace Go.Proofs.Ytabnganndcmcnaa.Ev
open Go Go.Proofs
set_option maxRecDepth 4000
set_option maxHeartbeats 4000000

theorem ballot_same {m l : Int} (h : (ballot m l).2 = 0) : counting false m 0 l 24 = ballot m l := by
  unfold ballot at h ⊢
  cases e : (counted m && counted l) with
  | false => rw [e] at h; simp at h
  | true =>
    simp only [Bool.and_eq_true] at e
    unfold counting given
    rw [e.1, e.2]
    obtain ⟨l, rfl, hl⟩ := counted_nat e.2
    have hc : ¬ (24 : Nat) < l := by omega
    simp [counted, hc]
theorem ilist_some (l : List Int) : ilist (some l) = l := rfl
theorem run_lawPathCounts (code : List Int) (h_code : code.length ≤ 9223372036854775807) (hb : ∀ z, z ∈ code → 0 ≤ z ∧ z ≤ 255) :
    runv E1 5 [.list code.length (code.map (V.int .u8))] = some ⟨true, .bool true, [.undef]⟩ := by
  have g0 := run_big code
  by_cases hl : 4096 < (code.length : Int)
  · have cdk : codeOk Try.f5.ntmps (Try.f5.body.getD .skip) = true := by kernel_rfl
    refine run_of_WLr (fn := Try.f5) rfl Try.func5 rfl ⟨by simp [Try.ntmps5], by simp [wideA, ints], cdk, by simp [Try.f5]⟩ rfl (by simp [rebOk, noId, adoptT, adoptA, adoptL, adoptC, depth]) ?_
    simp [go_sem, -List.map_replicate, -List.map_set, -List.map_append, -List.map_reverse, -List.map_take, -List.map_drop, -List.map_tail, -List.any_map, -List.all_map, -List.mapM_map, -List.map_map, slL, szI, ldI, zI, undL, apL, setI, rdI_get, Nat.add_one_le_iff, fillV, zeros1, zeros0, appendD, segV, lvO, goneOf, sliceD, bound, Nat.add_assoc, g0, hl]
    simp [Ends, finish, onlyP, finPtr, anyU, ptrU, ownI, isLR, finFresh, finRead, resV, expN, treeN, eidN, outs, outA, outC, outL, outsI, outAI, outI, outIL, nodupB, depth, normR, normA, normL, normC, noTup, oneV, purN, idsN, upd, E0_P, E1_P, E2_P, mkSt_fr, mkSt_H, mkSt_nx, mkSt_rs, lookF, flatO, disjN, getO, mapM_purN_int, mapM_expN_int, flatMap_idsN_int, flatMap_eidN_int, any_hasU_int, all_treeN_int, mapM_purN_str, mapM_expN_str, flatMap_idsN_str, flatMap_eidN_str, any_hasU_str, all_treeN_str, ctBool, ctInt, ctI64, ctL, take_map_full, -List.map_replicate, -List.map_set, -List.map_append, -List.map_reverse, -List.map_take, -List.map_drop, -List.map_tail, -List.any_map, -List.all_map, -List.mapM_map, -List.map_map, Try.f5]
  have hl' : code.length ≤ 4096 := by omega
  obtain ⟨n, i, k, h, d1⟩ := run_DrawPathsOf code hb hl'
  have p1 := run_implPathsOf n i k h
  have p2 := run_specPathsOf n i k h
  have p3 := up (run_implCountPaths n i k h)
  have p4 := up (run_implCountLevelPaths n i k h)
  have q1 := @paths_counts n i k h
  have q2 := @pathsR_path n i k h
  have q3 := pathsR_len n i k h
  have q4 : (pathsR n i k h).2 ≠ 0 → (pathsR n i k h).1 = [] := by
    unfold pathsR; (repeat' split) <;> simp
  generalize pathsR n i k h = r at *
  obtain ⟨ps, c⟩ := r
  generalize counting true n i k h = r at *
  obtain ⟨ct, cc⟩ := r
  generalize counting false n i k h = r at *
  obtain ⟨lt, lc⟩ := r
  simp only at *
  obtain ⟨t, at', ht, d2⟩ := run_DrawReversePath code hb hl'
  have r1 := up (run_implReversePath t at' (by omega))
  have r2 := up (run_specReversePath t at' (by omega))
  have r3 := up (run_implHeightsOf t at' (by omega))
  obtain ⟨m, l, d3⟩ := run_DrawBallotNumber code hb hl'
  have b1 := up (run_implBallot m l)
  have b2 := up (run_specBallot m l)
  have b3 := up (run_implCountLevelPaths m 0 l 24)
  have b4 := @ballot_same m l
  obtain ⟨jp, ja, jb, tx, fr, hj, d4⟩ := run_DrawWeightOfPath code hb hl'
  have w1 := run_implWeightOfPath jp ja jb tx fr (by omega) (by omega) (by omega)
  have w2 := run_specWeightOfPath jp ja jb tx fr (by omega) (by omega) (by omega)
  obtain ⟨n5, i5, k5, h5, d5⟩ := run_DrawCountPaths code hb hl'
  have c1 := up (run_implCountPaths n5 i5 k5 h5)
  have c2 := up (run_specCountPaths n5 i5 k5 h5)
  obtain ⟨n6, i6, k6, h6, d6⟩ := run_DrawCountLevelPaths code hb hl'
  have c3 := up (run_implCountLevelPaths n6 i6 k6 h6)
  have c4 := up (run_specCountLevelPaths n6 i6 k6 h6)
  obtain ⟨t7, i7, ht7, d7⟩ := run_DrawHeightsOf code hb hl'
  have e1 := up (run_implHeightsOf t7 i7 (by omega))
  have e2 := up (run_specHeightsOf t7 i7 (by omega))
  have e3 := run_likeInts (ilist (pathR t7 i7 24)) (by
    unfold pathR ilist
    split
    · rename_i hq
      unfold heightsR
      cases hh : hts (bl t7) i7 with
      | none => simp
      | some q => have := hts_len _ _ _ hh; rw [bl_len] at this; simp; omega
    · simp)
  generalize ilist (pathR t7 i7 24) = L7 at *
  generalize codeH (pathR t7 i7 24) = C7 at *
  generalize counting true n5 i5 k5 h5 = R5 at *
  generalize counting false n6 i6 k6 h6 = R6 at *
  generalize wtR jp ja jb tx fr = R4 at *
  -- a path turned twice
  have tt : (turned t at' = (⟨#[]⟩, 2)) ∨ ∃ (q : List Int) (M : Nat), pathR t at' 24 = some q ∧ q.length = M + 1 ∧ M ≤ 24 ∧ (turned t at').2 = 0 ∧ (rdI q M ≤ 24 → (turned t at').1.size ≤ 1048576 ∧ turned (turned t at').1 (rdI q M) = (t, 0)) := by
    cases hp : pathR t at' 24 with
    | none => left; unfold turned; rw [hp]; rfl
    | some q =>
      right
      have hq : q.length = t.size + 1 ∧ t.size ≤ 24 := by
        unfold pathR at hp
        split at hp
        · rename_i hc
          unfold heightsR at hp
          obtain ⟨q', h1, rfl⟩ := Option.map_eq_some_iff.1 hp
          have := hts_len _ _ _ h1
          rw [bl_len] at this
          simp only [List.length_cons]; omega
        · cases hp
      have h0 : (turned t at').2 = 0 := by unfold turned; rw [hp]; rfl
      refine ⟨q, t.size, rfl, hq.1, hq.2, h0, fun hm => ?_⟩
      have hb := turned_back hp (by rw [hq.1]; exact hm)
      have e : q.length - 1 = t.size := by omega
      rw [e] at hb
      rw [hb.1]
      refine ⟨?_, hb.2⟩
      show (strOf _).size ≤ 1048576
      have : (strOf ((bl t).map turn).reverse).size = t.size := by
        show ((((bl t).map turn).reverse.map fun n => UInt8.ofNat n.toNat).toArray).size = t.size
        simp [bl_len]
      omega
  have r4 : ∀ (x : Int), (turned t at').1.size ≤ 1048576 → turned (turned t at').1 x = (t, 0) → runv E1 43 [.str (turned t at').1, .int .i64 x] = some ⟨true, .tup [.str t, .int .i64 0], [.undef, .undef]⟩ := fun x hz he => by
    have := up (run_implReversePath (turned t at').1 x hz)
    rw [he] at this; exact this
  have cdk : codeOk Try.f5.ntmps (Try.f5.body.getD .skip) = true := by kernel_rfl
  refine run_of_WLr (fn := Try.f5) rfl Try.func5 rfl ⟨by simp [Try.ntmps5], by simp [wideA, ints], cdk, by simp [Try.f5]⟩ rfl (by simp [rebOk, noId, adoptT, adoptA, adoptL, adoptC, depth]) ?_
  by_cases c0 : c = 0
  · obtain ⟨e1', e2', e3', e4', _⟩ := q1 c0
    subst c0; subst e1'; subst e2'; subst e3'
    have e5' : ¬ (ps.length : Int) < lt := by omega
    simp [go_sem, -List.map_replicate, -List.map_set, -List.map_append, -List.map_reverse, -List.map_take, -List.map_drop, -List.map_tail, -List.any_map, -List.all_map, -List.mapM_map, -List.map_map, slL, szI, ldI, zI, undL, apL, setI, rdI_get, Nat.add_one_le_iff, fillV, zeros1, zeros0, appendD, segV, lvO, goneOf, sliceD, bound, Nat.add_assoc, g0, hl, d1, p1, p2, p3, p4, e5', slStrD, ldStrD, undStrSD]
    rw [WL_loop]
    refine WL_for (keep := [0, 3, 4, 5, 7, 9, 15]) (rs := resM Try.f5) rfl (by kernel_rfl) (fun x => mkSt [(0, .list code.length (code.map (V.int .u8))), (3, .int .i64 n), (4, .int .i64 i), (5, .int .i64 k), (7, .sl 0 0 0 ps.length), (9, .sl 1 0 0 ps.length), (15, .int .i64 (x : Int))] [some (⟨0, 2, 1, ps.map V.str⟩), some (⟨0, 2, 1, ps.map V.str⟩)] (resM Try.f5)) ps.length ?_ ?_ 0 _ (by omega) rfl ?_
    · intro x hx next
      have xi : (x : Int) < ps.length := by omega
      obtain ⟨q, h1, h2, h3, hn0, hn1, hz⟩ := q2 (List.getElem_mem hx)
      have hh := up (run_implHeightsOf ps[x] i (by omega))
      rw [h1, ilist_some] at hh
      rw [show codeH (some q) = 0 from rfl] at hh
      obtain ⟨N, rfl⟩ : ∃ N : Nat, n = N := ⟨n.toNat, by omega⟩
      have hN : N < q.length := by omega
      have hNi : (N : Int) < (N : Int) + 1 := by omega
      have hqz : q.length = N + 1 := by omega
      rw [Int.toNat_natCast] at h3
      have g1 : IntKind.i64.wrap ((N : Int) + 1) = (N : Int) + 1 := IntWalk.i64_in _ (by omega)
      have g2 : IntKind.i64.wrap ((x : Int) + 1) = (x : Int) + 1 := IntWalk.i64_in _ (by omega)
      as_aux_lemma =>
        simp [go_sem, -List.map_replicate, -List.map_set, -List.map_append, -List.map_reverse, -List.map_take, -List.map_drop, -List.map_tail, -List.any_map, -List.all_map, -List.mapM_map, -List.map_map, slL, szI, ldI, zI, undL, apL, setI, rdI_get, Nat.add_one_le_iff, fillV, zeros1, zeros0, appendD, segV, lvO, goneOf, sliceD, bound, Nat.add_assoc, szL, ldL, setCs0, setCs1, setCs2, setCsA2, setCsA3, ldM, fM0, fM1, szM, zM, plM0, plM1, agM, paM, ldJ, fJ0, fJ1, fJ2, szJ, zJ, plJ0, plJ1, plJ2, agJ, paJ, hx, xi, slStrD, ldStrD, undStrSD, hh, strOp, g1, g2, hqz, hN, hNi, h3]
        repeat refine ⟨by kernel_rfl, by kernel_rfl, ?_⟩
        refine next _ rfl ?_
        (refine canon_mk ?_; simp [ordOf, dedupA, idsF, inside, renV, renI, renC, renO, posN, noId, mkSt_fr, mkSt_H, mkSt_nx, mkSt_rs, lookF, nodupB, depth, upd, ordIds_int, ordRen_int, ordIds_app, ordRen_app, ordIds_app2, ordRen_app2, appW, -List.map_replicate, -List.map_set, -List.map_append, -List.map_reverse, -List.map_take, -List.map_drop, -List.map_tail, -List.map_map, ordIds_str, ordRen_str])
    · rcases tt with tt | ⟨q, M, s1, s2, s3, s4, s5⟩
      · rw [tt] at r1 r2
        by_cases z0 : (ballot m l).2 = 0
        · have b5 := b4 z0
          rw [b5] at b3
          rw [z0] at b1 b2 b3
          as_aux_lemma =>
            simp [go_sem, -List.map_replicate, -List.map_set, -List.map_append, -List.map_reverse, -List.map_take, -List.map_drop, -List.map_tail, -List.any_map, -List.all_map, -List.mapM_map, -List.map_map, slL, szI, ldI, zI, undL, apL, setI, rdI_get, Nat.add_one_le_iff, fillV, zeros1, zeros0, appendD, segV, lvO, goneOf, sliceD, bound, Nat.add_assoc, szL, ldL, setCs0, setCs1, setCs2, setCsA2, setCsA3, ldM, fM0, fM1, szM, zM, plM0, plM1, agM, paM, ldJ, fJ0, fJ1, fJ2, szJ, zJ, plJ0, plJ1, plJ2, agJ, paJ, slStrD, ldStrD, undStrSD, d2, r1, r2, d3, b1, b2, b3, d4, w1, w2, d5, c1, c2, d6, c3, c4, d7, e1, e2, e3, strOp]
            repeat refine ⟨by kernel_rfl, by kernel_rfl, ?_⟩
            simp [Ends, finish, onlyP, finPtr, anyU, ptrU, ownI, isLR, finFresh, finRead, resV, expN, treeN, eidN, outs, outA, outC, outL, outsI, outAI, outI, outIL, nodupB, depth, normR, normA, normL, normC, noTup, oneV, purN, idsN, upd, E0_P, E1_P, E2_P, mkSt_fr, mkSt_H, mkSt_nx, mkSt_rs, lookF, flatO, disjN, getO, mapM_purN_int, mapM_expN_int, flatMap_idsN_int, flatMap_eidN_int, any_hasU_int, all_treeN_int, mapM_purN_str, mapM_expN_str, flatMap_idsN_str, flatMap_eidN_str, any_hasU_str, all_treeN_str, ctBool, ctInt, ctI64, ctL, take_map_full, -List.map_replicate, -List.map_set, -List.map_append, -List.map_reverse, -List.map_take, -List.map_drop, -List.map_tail, -List.any_map, -List.all_map, -List.mapM_map, -List.map_map, Try.f5]
        · as_aux_lemma =>
            simp [go_sem, -List.map_replicate, -List.map_set, -List.map_append, -List.map_reverse, -List.map_take, -List.map_drop, -List.map_tail, -List.any_map, -List.all_map, -List.mapM_map, -List.map_map, slL, szI, ldI, zI, undL, apL, setI, rdI_get, Nat.add_one_le_iff, fillV, zeros1, zeros0, appendD, segV, lvO, goneOf, sliceD, bound, Nat.add_assoc, szL, ldL, setCs0, setCs1, setCs2, setCsA2, setCsA3, ldM, fM0, fM1, szM, zM, plM0, plM1, agM, paM, ldJ, fJ0, fJ1, fJ2, szJ, zJ, plJ0, plJ1, plJ2, agJ, paJ, slStrD, ldStrD, undStrSD, d2, r1, r2, d3, b1, b2, z0, d4, w1, w2, d5, c1, c2, d6, c3, c4, d7, e1, e2, e3, strOp]
            repeat refine ⟨by kernel_rfl, by kernel_rfl, ?_⟩
            simp [Ends, finish, onlyP, finPtr, anyU, ptrU, ownI, isLR, finFresh, finRead, resV, expN, treeN, eidN, outs, outA, outC, outL, outsI, outAI, outI, outIL, nodupB, depth, normR, normA, normL, normC, noTup, oneV, purN, idsN, upd, E0_P, E1_P, E2_P, mkSt_fr, mkSt_H, mkSt_nx, mkSt_rs, lookF, flatO, disjN, getO, mapM_purN_int, mapM_expN_int, flatMap_idsN_int, flatMap_eidN_int, any_hasU_int, all_treeN_int, mapM_purN_str, mapM_expN_str, flatMap_idsN_str, flatMap_eidN_str, any_hasU_str, all_treeN_str, ctBool, ctInt, ctI64, ctL, take_map_full, -List.map_replicate, -List.map_set, -List.map_append, -List.map_reverse, -List.map_take, -List.map_drop, -List.map_tail, -List.any_map, -List.all_map, -List.mapM_map, -List.map_map, Try.f5]
      · have m1 : IntKind.i64.wrap (M : Int) = M := IntWalk.i64_in _ (by omega)
        have m2 : (M : Int) < (M : Int) + 1 := by omega
        have m3 : M < q.length := by omega
        rw [s1, ilist_some] at r3
        rw [show codeH (some q) = 0 from rfl] at r3
        rw [s4] at r1 r2
        by_cases hq : rdI q M ≤ 24
        · obtain ⟨v1, v2⟩ := s5 hq
          have r5 := r4 _ v1 v2
          generalize (turned t at').1 = tb at *
          by_cases z0 : (ballot m l).2 = 0
          · have b5 := b4 z0
            rw [b5] at b3
            rw [z0] at b1 b2 b3
            as_aux_lemma =>
              simp [go_sem, -List.map_replicate, -List.map_set, -List.map_append, -List.map_reverse, -List.map_take, -List.map_drop, -List.map_tail, -List.any_map, -List.all_map, -List.mapM_map, -List.map_map, slL, szI, ldI, zI, undL, apL, setI, rdI_get, Nat.add_one_le_iff, fillV, zeros1, zeros0, appendD, segV, lvO, goneOf, sliceD, bound, Nat.add_assoc, szL, ldL, setCs0, setCs1, setCs2, setCsA2, setCsA3, ldM, fM0, fM1, szM, zM, plM0, plM1, agM, paM, ldJ, fJ0, fJ1, fJ2, szJ, zJ, plJ0, plJ1, plJ2, agJ, paJ, slStrD, ldStrD, undStrSD, d2, r1, r2, r3, r5, s2, m1, m2, m3, hq, d3, b1, b2, b3, d4, w1, w2, d5, c1, c2, d6, c3, c4, d7, e1, e2, e3, strOp]
              repeat refine ⟨by kernel_rfl, by kernel_rfl, ?_⟩
              simp [Ends, finish, onlyP, finPtr, anyU, ptrU, ownI, isLR, finFresh, finRead, resV, expN, treeN, eidN, outs, outA, outC, outL, outsI, outAI, outI, outIL, nodupB, depth, normR, normA, normL, normC, noTup, oneV, purN, idsN, upd, E0_P, E1_P, E2_P, mkSt_fr, mkSt_H, mkSt_nx, mkSt_rs, lookF, flatO, disjN, getO, mapM_purN_int, mapM_expN_int, flatMap_idsN_int, flatMap_eidN_int, any_hasU_int, all_treeN_int, mapM_purN_str, mapM_expN_str, flatMap_idsN_str, flatMap_eidN_str, any_hasU_str, all_treeN_str, ctBool, ctInt, ctI64, ctL, take_map_full, -List.map_replicate, -List.map_set, -List.map_append, -List.map_reverse, -List.map_take, -List.map_drop, -List.map_tail, -List.any_map, -List.all_map, -List.mapM_map, -List.map_map, Try.f5]
          · as_aux_lemma =>
              simp [go_sem, -List.map_replicate, -List.map_set, -List.map_append, -List.map_reverse, -List.map_take, -List.map_drop, -List.map_tail, -List.any_map, -List.all_map, -List.mapM_map, -List.map_map, slL, szI, ldI, zI, undL, apL, setI, rdI_get, Nat.add_one_le_iff, fillV, zeros1, zeros0, appendD, segV, lvO, goneOf, sliceD, bound, Nat.add_assoc, szL, ldL, setCs0, setCs1, setCs2, setCsA2, setCsA3, ldM, fM0, fM1, szM, zM, plM0, plM1, agM, paM, ldJ, fJ0, fJ1, fJ2, szJ, zJ, plJ0, plJ1, plJ2, agJ, paJ, slStrD, ldStrD, undStrSD, d2, r1, r2, r3, r5, s2, m1, m2, m3, hq, d3, b1, b2, z0, d4, w1, w2, d5, c1, c2, d6, c3, c4, d7, e1, e2, e3, strOp]
              repeat refine ⟨by kernel_rfl, by kernel_rfl, ?_⟩
              simp [Ends, finish, onlyP, finPtr, anyU, ptrU, ownI, isLR, finFresh, finRead, resV, expN, treeN, eidN, outs, outA, outC, outL, outsI, outAI, outI, outIL, nodupB, depth, normR, normA, normL, normC, noTup, oneV, purN, idsN, upd, E0_P, E1_P, E2_P, mkSt_fr, mkSt_H, mkSt_nx, mkSt_rs, lookF, flatO, disjN, getO, mapM_purN_int, mapM_expN_int, flatMap_idsN_int, flatMap_eidN_int, any_hasU_int, all_treeN_int, mapM_purN_str, mapM_expN_str, flatMap_idsN_str, flatMap_eidN_str, any_hasU_str, all_treeN_str, ctBool, ctInt, ctI64, ctL, take_map_full, -List.map_replicate, -List.map_set, -List.map_append, -List.map_reverse, -List.map_take, -List.map_drop, -List.map_tail, -List.any_map, -List.all_map, -List.mapM_map, -List.map_map, Try.f5]
        · generalize (turned t at').1 = tb at *
          by_cases z0 : (ballot m l).2 = 0
          · have b5 := b4 z0
            rw [b5] at b3
            rw [z0] at b1 b2 b3
            as_aux_lemma =>
              simp [go_sem, -List.map_replicate, -List.map_set, -List.map_append, -List.map_reverse, -List.map_take, -List.map_drop, -List.map_tail, -List.any_map, -List.all_map, -List.mapM_map, -List.map_map, slL, szI, ldI, zI, undL, apL, setI, rdI_get, Nat.add_one_le_iff, fillV, zeros1, zeros0, appendD, segV, lvO, goneOf, sliceD, bound, Nat.add_assoc, szL, ldL, setCs0, setCs1, setCs2, setCsA2, setCsA3, ldM, fM0, fM1, szM, zM, plM0, plM1, agM, paM, ldJ, fJ0, fJ1, fJ2, szJ, zJ, plJ0, plJ1, plJ2, agJ, paJ, slStrD, ldStrD, undStrSD, d2, r1, r2, r3, s2, m1, m2, m3, hq, d3, b1, b2, b3, d4, w1, w2, d5, c1, c2, d6, c3, c4, d7, e1, e2, e3, strOp]
              repeat refine ⟨by kernel_rfl, by kernel_rfl, ?_⟩
              simp [Ends, finish, onlyP, finPtr, anyU, ptrU, ownI, isLR, finFresh, finRead, resV, expN, treeN, eidN, outs, outA, outC, outL, outsI, outAI, outI, outIL, nodupB, depth, normR, normA, normL, normC, noTup, oneV, purN, idsN, upd, E0_P, E1_P, E2_P, mkSt_fr, mkSt_H, mkSt_nx, mkSt_rs, lookF, flatO, disjN, getO, mapM_purN_int, mapM_expN_int, flatMap_idsN_int, flatMap_eidN_int, any_hasU_int, all_treeN_int, mapM_purN_str, mapM_expN_str, flatMap_idsN_str, flatMap_eidN_str, any_hasU_str, all_treeN_str, ctBool, ctInt, ctI64, ctL, take_map_full, -List.map_replicate, -List.map_set, -List.map_append, -List.map_reverse, -List.map_take, -List.map_drop, -List.map_tail, -List.any_map, -List.all_map, -List.mapM_map, -List.map_map, Try.f5]
          · as_aux_lemma =>
              simp [go_sem, -List.map_replicate, -List.map_set, -List.map_append, -List.map_reverse, -List.map_take, -List.map_drop, -List.map_tail, -List.any_map, -List.all_map, -List.mapM_map, -List.map_map, slL, szI, ldI, zI, undL, apL, setI, rdI_get, Nat.add_one_le_iff, fillV, zeros1, zeros0, appendD, segV, lvO, goneOf, sliceD, bound, Nat.add_assoc, szL, ldL, setCs0, setCs1, setCs2, setCsA2, setCsA3, ldM, fM0, fM1, szM, zM, plM0, plM1, agM, paM, ldJ, fJ0, fJ1, fJ2, szJ, zJ, plJ0, plJ1, plJ2, agJ, paJ, slStrD, ldStrD, undStrSD, d2, r1, r2, r3, s2, m1, m2, m3, hq, d3, b1, b2, z0, d4, w1, w2, d5, c1, c2, d6, c3, c4, d7, e1, e2, e3, strOp]
              repeat refine ⟨by kernel_rfl, by kernel_rfl, ?_⟩
              simp [Ends, finish, onlyP, finPtr, anyU, ptrU, ownI, isLR, finFresh, finRead, resV, expN, treeN, eidN, outs, outA, outC, outL, outsI, outAI, outI, outIL, nodupB, depth, normR, normA, normL, normC, noTup, oneV, purN, idsN, upd, E0_P, E1_P, E2_P, mkSt_fr, mkSt_H, mkSt_nx, mkSt_rs, lookF, flatO, disjN, getO, mapM_purN_int, mapM_expN_int, flatMap_idsN_int, flatMap_eidN_int, any_hasU_int, all_treeN_int, mapM_purN_str, mapM_expN_str, flatMap_idsN_str, flatMap_eidN_str, any_hasU_str, all_treeN_str, ctBool, ctInt, ctI64, ctL, take_map_full, -List.map_replicate, -List.map_set, -List.map_append, -List.map_reverse, -List.map_take, -List.map_drop, -List.map_tail, -List.any_map, -List.all_map, -List.mapM_map, -List.map_map, Try.f5]
    · (refine canon_mk ?_; simp [ordOf, dedupA, idsF, inside, renV, renI, renC, renO, posN, noId, mkSt_fr, mkSt_H, mkSt_nx, mkSt_rs, lookF, nodupB, depth, upd, ordIds_int, ordRen_int, ordIds_app, ordRen_app, ordIds_app2, ordRen_app2, appW, -List.map_replicate, -List.map_set, -List.map_append, -List.map_reverse, -List.map_take, -List.map_drop, -List.map_tail, -List.map_map, ordIds_str, ordRen_str])
  · simp [go_sem, -List.map_replicate, -List.map_set, -List.map_append, -List.map_reverse, -List.map_take, -List.map_drop, -List.map_tail, -List.any_map, -List.all_map, -List.mapM_map, -List.map_map, slL, szI, ldI, zI, undL, apL, setI, rdI_get, Nat.add_one_le_iff, fillV, zeros1, zeros0, appendD, segV, lvO, goneOf, sliceD, bound, Nat.add_assoc, g0, hl, d1, p1, p2, p3, p4, c0, slStrD, ldStrD, undStrSD]
    rw [WL_loop]
    refine WL_for (keep := [0, 3, 4, 5, 7, 9, 15]) (rs := resM Try.f5) rfl (by kernel_rfl) (fun x => mkSt [(0, .list code.length (code.map (V.int .u8))), (3, .int .i64 n), (4, .int .i64 i), (5, .int .i64 k), (7, .sl 0 0 0 ps.length), (9, .sl 1 0 0 ps.length), (15, .int .i64 (x : Int))] [some (⟨0, 2, 1, ps.map V.str⟩), some (⟨0, 2, 1, ps.map V.str⟩)] (resM Try.f5)) ps.length ?_ ?_ 0 _ (by omega) rfl ?_
    · intro x hx next
      have xi : (x : Int) < ps.length := by omega
      obtain ⟨q, h1, h2, h3, hn0, hn1, hz⟩ := q2 (List.getElem_mem hx)
      have hh := up (run_implHeightsOf ps[x] i (by omega))
      rw [h1, ilist_some] at hh
      rw [show codeH (some q) = 0 from rfl] at hh
      obtain ⟨N, rfl⟩ : ∃ N : Nat, n = N := ⟨n.toNat, by omega⟩
      have hN : N < q.length := by omega
      have hNi : (N : Int) < (N : Int) + 1 := by omega
      have hqz : q.length = N + 1 := by omega
      rw [Int.toNat_natCast] at h3
      have g1 : IntKind.i64.wrap ((N : Int) + 1) = (N : Int) + 1 := IntWalk.i64_in _ (by omega)
      have g2 : IntKind.i64.wrap ((x : Int) + 1) = (x : Int) + 1 := IntWalk.i64_in _ (by omega)
      as_aux_lemma =>
        simp [go_sem, -List.map_replicate, -List.map_set, -List.map_append, -List.map_reverse, -List.map_take, -List.map_drop, -List.map_tail, -List.any_map, -List.all_map, -List.mapM_map, -List.map_map, slL, szI, ldI, zI, undL, apL, setI, rdI_get, Nat.add_one_le_iff, fillV, zeros1, zeros0, appendD, segV, lvO, goneOf, sliceD, bound, Nat.add_assoc, szL, ldL, setCs0, setCs1, setCs2, setCsA2, setCsA3, ldM, fM0, fM1, szM, zM, plM0, plM1, agM, paM, ldJ, fJ0, fJ1, fJ2, szJ, zJ, plJ0, plJ1, plJ2, agJ, paJ, hx, xi, slStrD, ldStrD, undStrSD, hh, strOp, g1, g2, hqz, hN, hNi, h3]
        repeat refine ⟨by kernel_rfl, by kernel_rfl, ?_⟩
        refine next _ rfl ?_
        (refine canon_mk ?_; simp [ordOf, dedupA, idsF, inside, renV, renI, renC, renO, posN, noId, mkSt_fr, mkSt_H, mkSt_nx, mkSt_rs, lookF, nodupB, depth, upd, ordIds_int, ordRen_int, ordIds_app, ordRen_app, ordIds_app2, ordRen_app2, appW, -List.map_replicate, -List.map_set, -List.map_append, -List.map_reverse, -List.map_take, -List.map_drop, -List.map_tail, -List.map_map, ordIds_str, ordRen_str])
    · rcases tt with tt | ⟨q, M, s1, s2, s3, s4, s5⟩
      · rw [tt] at r1 r2
        by_cases z0 : (ballot m l).2 = 0
        · have b5 := b4 z0
          rw [b5] at b3
          rw [z0] at b1 b2 b3
          as_aux_lemma =>
            simp [go_sem, -List.map_replicate, -List.map_set, -List.map_append, -List.map_reverse, -List.map_take, -List.map_drop, -List.map_tail, -List.any_map, -List.all_map, -List.mapM_map, -List.map_map, slL, szI, ldI, zI, undL, apL, setI, rdI_get, Nat.add_one_le_iff, fillV, zeros1, zeros0, appendD, segV, lvO, goneOf, sliceD, bound, Nat.add_assoc, szL, ldL, setCs0, setCs1, setCs2, setCsA2, setCsA3, ldM, fM0, fM1, szM, zM, plM0, plM1, agM, paM, ldJ, fJ0, fJ1, fJ2, szJ, zJ, plJ0, plJ1, plJ2, agJ, paJ, slStrD, ldStrD, undStrSD, d2, r1, r2, d3, b1, b2, b3, d4, w1, w2, d5, c1, c2, d6, c3, c4, d7, e1, e2, e3, strOp]
            repeat refine ⟨by kernel_rfl, by kernel_rfl, ?_⟩
            simp [Ends, finish, onlyP, finPtr, anyU, ptrU, ownI, isLR, finFresh, finRead, resV, expN, treeN, eidN, outs, outA, outC, outL, outsI, outAI, outI, outIL, nodupB, depth, normR, normA, normL, normC, noTup, oneV, purN, idsN, upd, E0_P, E1_P, E2_P, mkSt_fr, mkSt_H, mkSt_nx, mkSt_rs, lookF, flatO, disjN, getO, mapM_purN_int, mapM_expN_int, flatMap_idsN_int, flatMap_eidN_int, any_hasU_int, all_treeN_int, mapM_purN_str, mapM_expN_str, flatMap_idsN_str, flatMap_eidN_str, any_hasU_str, all_treeN_str, ctBool, ctInt, ctI64, ctL, take_map_full, -List.map_replicate, -List.map_set, -List.map_append, -List.map_reverse, -List.map_take, -List.map_drop, -List.map_tail, -List.any_map, -List.all_map, -List.mapM_map, -List.map_map, Try.f5]
        · as_aux_lemma =>
            simp [go_sem, -List.map_replicate, -List.map_set, -List.map_append, -List.map_reverse, -List.map_take, -List.map_drop, -List.map_tail, -List.any_map, -List.all_map, -List.mapM_map, -List.map_map, slL, szI, ldI, zI, undL, apL, setI, rdI_get, Nat.add_one_le_iff, fillV, zeros1, zeros0, appendD, segV, lvO, goneOf, sliceD, bound, Nat.add_assoc, szL, ldL, setCs0, setCs1, setCs2, setCsA2, setCsA3, ldM, fM0, fM1, szM, zM, plM0, plM1, agM, paM, ldJ, fJ0, fJ1, fJ2, szJ, zJ, plJ0, plJ1, plJ2, agJ, paJ, slStrD, ldStrD, undStrSD, d2, r1, r2, d3, b1, b2, z0, d4, w1, w2, d5, c1, c2, d6, c3, c4, d7, e1, e2, e3, strOp]
            repeat refine ⟨by kernel_rfl, by kernel_rfl, ?_⟩
            simp [Ends, finish, onlyP, finPtr, anyU, ptrU, ownI, isLR, finFresh, finRead, resV, expN, treeN, eidN, outs, outA, outC, outL, outsI, outAI, outI, outIL, nodupB, depth, normR, normA, normL, normC, noTup, oneV, purN, idsN, upd, E0_P, E1_P, E2_P, mkSt_fr, mkSt_H, mkSt_nx, mkSt_rs, lookF, flatO, disjN, getO, mapM_purN_int, mapM_expN_int, flatMap_idsN_int, flatMap_eidN_int, any_hasU_int, all_treeN_int, mapM_purN_str, mapM_expN_str, flatMap_idsN_str, flatMap_eidN_str, any_hasU_str, all_treeN_str, ctBool, ctInt, ctI64, ctL, take_map_full, -List.map_replicate, -List.map_set, -List.map_append, -List.map_reverse, -List.map_take, -List.map_drop, -List.map_tail, -List.any_map, -List.all_map, -List.mapM_map, -List.map_map, Try.f5]
      · have m1 : IntKind.i64.wrap (M : Int) = M := IntWalk.i64_in _ (by omega)
        have m2 : (M : Int) < (M : Int) + 1 := by omega
        have m3 : M < q.length := by omega
        rw [s1, ilist_some] at r3
        rw [show codeH (some q) = 0 from rfl] at r3
        rw [s4] at r1 r2
        by_cases hq : rdI q M ≤ 24
        · obtain ⟨v1, v2⟩ := s5 hq
          have r5 := r4 _ v1 v2
          generalize (turned t at').1 = tb at *
          by_cases z0 : (ballot m l).2 = 0
          · have b5 := b4 z0
            rw [b5] at b3
            rw [z0] at b1 b2 b3
            as_aux_lemma =>
              simp [go_sem, -List.map_replicate, -List.map_set, -List.map_append, -List.map_reverse, -List.map_take, -List.map_drop, -List.map_tail, -List.any_map, -List.all_map, -List.mapM_map, -List.map_map, slL, szI, ldI, zI, undL, apL, setI, rdI_get, Nat.add_one_le_iff, fillV, zeros1, zeros0, appendD, segV, lvO, goneOf, sliceD, bound, Nat.add_assoc, szL, ldL, setCs0, setCs1, setCs2, setCsA2, setCsA3, ldM, fM0, fM1, szM, zM, plM0, plM1, agM, paM, ldJ, fJ0, fJ1, fJ2, szJ, zJ, plJ0, plJ1, plJ2, agJ, paJ, slStrD, ldStrD, undStrSD, d2, r1, r2, r3, r5, s2, m1, m2, m3, hq, d3, b1, b2, b3, d4, w1, w2, d5, c1, c2, d6, c3, c4, d7, e1, e2, e3, strOp]
              repeat refine ⟨by kernel_rfl, by kernel_rfl, ?_⟩
              simp [Ends, finish, onlyP, finPtr, anyU, ptrU, ownI, isLR, finFresh, finRead, resV, expN, treeN, eidN, outs, outA, outC, outL, outsI, outAI, outI, outIL, nodupB, depth, normR, normA, normL, normC, noTup, oneV, purN, idsN, upd, E0_P, E1_P, E2_P, mkSt_fr, mkSt_H, mkSt_nx, mkSt_rs, lookF, flatO, disjN, getO, mapM_purN_int, mapM_expN_int, flatMap_idsN_int, flatMap_eidN_int, any_hasU_int, all_treeN_int, mapM_purN_str, mapM_expN_str, flatMap_idsN_str, flatMap_eidN_str, any_hasU_str, all_treeN_str, ctBool, ctInt, ctI64, ctL, take_map_full, -List.map_replicate, -List.map_set, -List.map_append, -List.map_reverse, -List.map_take, -List.map_drop, -List.map_tail, -List.any_map, -List.all_map, -List.mapM_map, -List.map_map, Try.f5]
          · as_aux_lemma =>
              simp [go_sem, -List.map_replicate, -List.map_set, -List.map_append, -List.map_reverse, -List.map_take, -List.map_drop, -List.map_tail, -List.any_map, -List.all_map, -List.mapM_map, -List.map_map, slL, szI, ldI, zI, undL, apL, setI, rdI_get, Nat.add_one_le_iff, fillV, zeros1, zeros0, appendD, segV, lvO, goneOf, sliceD, bound, Nat.add_assoc, szL, ldL, setCs0, setCs1, setCs2, setCsA2, setCsA3, ldM, fM0, fM1, szM, zM, plM0, plM1, agM, paM, ldJ, fJ0, fJ1, fJ2, szJ, zJ, plJ0, plJ1, plJ2, agJ, paJ, slStrD, ldStrD, undStrSD, d2, r1, r2, r3, r5, s2, m1, m2, m3, hq, d3, b1, b2, z0, d4, w1, w2, d5, c1, c2, d6, c3, c4, d7, e1, e2, e3, strOp]
              repeat refine ⟨by kernel_rfl, by kernel_rfl, ?_⟩
              simp [Ends, finish, onlyP, finPtr, anyU, ptrU, ownI, isLR, finFresh, finRead, resV, expN, treeN, eidN, outs, outA, outC, outL, outsI, outAI, outI, outIL, nodupB, depth, normR, normA, normL, normC, noTup, oneV, purN, idsN, upd, E0_P, E1_P, E2_P, mkSt_fr, mkSt_H, mkSt_nx, mkSt_rs, lookF, flatO, disjN, getO, mapM_purN_int, mapM_expN_int, flatMap_idsN_int, flatMap_eidN_int, any_hasU_int, all_treeN_int, mapM_purN_str, mapM_expN_str, flatMap_idsN_str, flatMap_eidN_str, any_hasU_str, all_treeN_str, ctBool, ctInt, ctI64, ctL, take_map_full, -List.map_replicate, -List.map_set, -List.map_append, -List.map_reverse, -List.map_take, -List.map_drop, -List.map_tail, -List.any_map, -List.all_map, -List.mapM_map, -List.map_map, Try.f5]
        · generalize (turned t at').1 = tb at *
          by_cases z0 : (ballot m l).2 = 0
          · have b5 := b4 z0
            rw [b5] at b3
            rw [z0] at b1 b2 b3
            as_aux_lemma =>
              simp [go_sem, -List.map_replicate, -List.map_set, -List.map_append, -List.map_reverse, -List.map_take, -List.map_drop, -List.map_tail, -List.any_map, -List.all_map, -List.mapM_map, -List.map_map, slL, szI, ldI, zI, undL, apL, setI, rdI_get, Nat.add_one_le_iff, fillV, zeros1, zeros0, appendD, segV, lvO, goneOf, sliceD, bound, Nat.add_assoc, szL, ldL, setCs0, setCs1, setCs2, setCsA2, setCsA3, ldM, fM0, fM1, szM, zM, plM0, plM1, agM, paM, ldJ, fJ0, fJ1, fJ2, szJ, zJ, plJ0, plJ1, plJ2, agJ, paJ, slStrD, ldStrD, undStrSD, d2, r1, r2, r3, s2, m1, m2, m3, hq, d3, b1, b2, b3, d4, w1, w2, d5, c1, c2, d6, c3, c4, d7, e1, e2, e3, strOp]
              repeat refine ⟨by kernel_rfl, by kernel_rfl, ?_⟩
              simp [Ends, finish, onlyP, finPtr, anyU, ptrU, ownI, isLR, finFresh, finRead, resV, expN, treeN, eidN, outs, outA, outC, outL, outsI, outAI, outI, outIL, nodupB, depth, normR, normA, normL, normC, noTup, oneV, purN, idsN, upd, E0_P, E1_P, E2_P, mkSt_fr, mkSt_H, mkSt_nx, mkSt_rs, lookF, flatO, disjN, getO, mapM_purN_int, mapM_expN_int, flatMap_idsN_int, flatMap_eidN_int, any_hasU_int, all_treeN_int, mapM_purN_str, mapM_expN_str, flatMap_idsN_str, flatMap_eidN_str, any_hasU_str, all_treeN_str, ctBool, ctInt, ctI64, ctL, take_map_full, -List.map_replicate, -List.map_set, -List.map_append, -List.map_reverse, -List.map_take, -List.map_drop, -List.map_tail, -List.any_map, -List.all_map, -List.mapM_map, -List.map_map, Try.f5]
          · as_aux_lemma =>
              simp [go_sem, -List.map_replicate, -List.map_set, -List.map_append, -List.map_reverse, -List.map_take, -List.map_drop, -List.map_tail, -List.any_map, -List.all_map, -List.mapM_map, -List.map_map, slL, szI, ldI, zI, undL, apL, setI, rdI_get, Nat.add_one_le_iff, fillV, zeros1, zeros0, appendD, segV, lvO, goneOf, sliceD, bound, Nat.add_assoc, szL, ldL, setCs0, setCs1, setCs2, setCsA2, setCsA3, ldM, fM0, fM1, szM, zM, plM0, plM1, agM, paM, ldJ, fJ0, fJ1, fJ2, szJ, zJ, plJ0, plJ1, plJ2, agJ, paJ, slStrD, ldStrD, undStrSD, d2, r1, r2, r3, s2, m1, m2, m3, hq, d3, b1, b2, z0, d4, w1, w2, d5, c1, c2, d6, c3, c4, d7, e1, e2, e3, strOp]
              repeat refine ⟨by kernel_rfl, by kernel_rfl, ?_⟩
              simp [Ends, finish, onlyP, finPtr, anyU, ptrU, ownI, isLR, finFresh, finRead, resV, expN, treeN, eidN, outs, outA, outC, outL, outsI, outAI, outI, outIL, nodupB, depth, normR, normA, normL, normC, noTup, oneV, purN, idsN, upd, E0_P, E1_P, E2_P, mkSt_fr, mkSt_H, mkSt_nx, mkSt_rs, lookF, flatO, disjN, getO, mapM_purN_int, mapM_expN_int, flatMap_idsN_int, flatMap_eidN_int, any_hasU_int, all_treeN_int, mapM_purN_str, mapM_expN_str, flatMap_idsN_str, flatMap_eidN_str, any_hasU_str, all_treeN_str, ctBool, ctInt, ctI64, ctL, take_map_full, -List.map_replicate, -List.map_set, -List.map_append, -List.map_reverse, -List.map_take, -List.map_drop, -List.map_tail, -List.any_map, -List.all_map, -List.mapM_map, -List.map_map, Try.f5]
    · (refine canon_mk ?_; simp [ordOf, dedupA, idsF, inside, renV, renI, renC, renO, posN, noId, mkSt_fr, mkSt_H, mkSt_nx, mkSt_rs, lookF, nodupB, depth, upd, ordIds_int, ordRen_int, ordIds_app, ordRen_app, ordIds_app2, ordRen_app2, appW, -List.map_replicate, -List.map_set, -List.map_append, -List.map_reverse, -List.map_take, -List.map_drop, -List.map_tail, -List.map_map, ordIds_str, ordRen_str])
end Go.Proofs.Ytabnganndcmcnaa.Ev
