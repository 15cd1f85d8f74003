/- HalveMoments and DoubleMoments: both texts and the laws. Conditions: none. -/
import Derived.Test.YtabnganndcmcnaaGreatFnU
set_option linter.unusedSimpArgs false
set_option linter.unusedVariables false
namespace Go.Proofs.YtabnganndcmcnaaGreat.Ev
open Go Go.Proofs
open List (map_replicate map_set map_append map_reverse map_take map_drop map_tail any_map all_map mapM_map map_map)
set_option maxRecDepth 4000
set_option maxHeartbeats 4000000

def halfM (p : Int) (l : List Int) : Int × List Int × Int :=
  if momB p l then (if symB l then (p, tab ((l.length + 1) / 2) (fun k => rdI l (2 * k)), 0) else (0, [], 5)) else (0, [], 1)
theorem halfM_len (p : Int) (l : List Int) (hl : l.length ≤ 1048576) : (halfM p l).2.1.length ≤ 1048576 := by
  unfold halfM
  (repeat' split) <;> simp [tab_len] <;> omega
theorem run_implHalveMoments (p : Int) (l : List Int) (hl : l.length ≤ 1048576) :
    runv E0 19 [(V.agg [V.int .i64 (p), (V.list (List.length (l)) (List.map (V.int .i64) (l)))])] = some ⟨true, .tup [(V.agg [V.int .i64 ((halfM p l).1), (V.uniq 1 (List.length ((halfM p l).2.1)) (List.map (V.int .i64) ((halfM p l).2.1)))]), .int .i64 (halfM p l).2.2], [.agg [.undef, .undef]]⟩ := by
  have cdk : codeOk Tryz.f19.ntmps (Tryz.f19.body.getD .skip) = true := by kernel_rfl
  refine run_of_WL (fn := Tryz.f19) rfl Tryz.func19 rfl ⟨by simp [Tryz.ntmps19], by simp [wideA, ints], cdk, by simp [Tryz.f19]⟩ ?_
  have h1 := run_mcodeA p l (by omega)
  cases e : momB p l with
  | false =>
    rw [e] at h1
    simp [go_sem, -map_replicate, -map_set, -map_append, -map_reverse, -map_take, -map_drop, -map_tail, -any_map, -all_map, -mapM_map, -map_map, slL, szI, ldI, zI, undL, apL, setI, rdI_get, Nat.add_one_le_iff, fillV, zeros1, zeros0, appendD, segV, lvO, goneOf, sliceD, bound, Nat.add_assoc, szL, ldL, setCs0, setCs1, setCs2, setCsA2, setCsA3, ldM, fM0, fM1, szM, zM, plM0, plM1, agM, paM, ldJ, fJ0, fJ1, fJ2, szJ, zJ, plJ0, plJ1, plJ2, agJ, paJ, h1, fillV]
    simp [mvcgen_simp, -map_replicate, -map_set, -map_append, -map_reverse, -map_take, -map_drop, -map_tail, -any_map, -all_map, -mapM_map, -map_map, Tryz.f19, halfM, e, szL, ldL, setCs0, setCs1, setCs2, setCsA2, setCsA3, ldM, fM0, fM1, szM, zM, plM0, plM1, agM, paM, ldJ, fJ0, fJ1, fJ2, szJ, zJ, plJ0, plJ1, plJ2, agJ, paJ, ctM, loadD, viewN]
  | true =>
    rw [e] at h1
    have hll := momB_len e
    have h2 := run_areSymmetric p l hll.2
    cases e2 : symB l with
    | false =>
      rw [e2] at h2
      simp [go_sem, -map_replicate, -map_set, -map_append, -map_reverse, -map_take, -map_drop, -map_tail, -any_map, -all_map, -mapM_map, -map_map, slL, szI, ldI, zI, undL, apL, setI, rdI_get, Nat.add_one_le_iff, fillV, zeros1, zeros0, appendD, segV, lvO, goneOf, sliceD, bound, Nat.add_assoc, szL, ldL, setCs0, setCs1, setCs2, setCsA2, setCsA3, ldM, fM0, fM1, szM, zM, plM0, plM1, agM, paM, ldJ, fJ0, fJ1, fJ2, szJ, zJ, plJ0, plJ1, plJ2, agJ, paJ, h1, h2, fillV]
      simp [mvcgen_simp, -map_replicate, -map_set, -map_append, -map_reverse, -map_take, -map_drop, -map_tail, -any_map, -all_map, -mapM_map, -map_map, Tryz.f19, halfM, e, e2, szL, ldL, setCs0, setCs1, setCs2, setCsA2, setCsA3, ldM, fM0, fM1, szM, zM, plM0, plM1, agM, paM, ldJ, fJ0, fJ1, fJ2, szJ, zJ, plJ0, plJ1, plJ2, agJ, paJ, ctM, loadD, viewN]
    | true =>
      rw [e2] at h2
      simp [go_sem, -map_replicate, -map_set, -map_append, -map_reverse, -map_take, -map_drop, -map_tail, -any_map, -all_map, -mapM_map, -map_map, slL, szI, ldI, zI, undL, apL, setI, rdI_get, Nat.add_one_le_iff, fillV, zeros1, zeros0, appendD, segV, lvO, goneOf, sliceD, bound, Nat.add_assoc, szL, ldL, setCs0, setCs1, setCs2, setCsA2, setCsA3, ldM, fM0, fM1, szM, zM, plM0, plM1, agM, paM, ldJ, fJ0, fJ1, fJ2, szJ, zJ, plJ0, plJ1, plJ2, agJ, paJ, h1, h2, fillV]
      rw [WL_loop]
      refine WL_count (I := fun i st => ∃ v, st.fr 1 = .ptr 8 0 0 ∧ st.fr 2 = .ptr 72 0 0 ∧ st.fr 5 = .ptr 904 0 0 ∧ st.fr 6 = .int .i64 (2 * (i : Int)) ∧ st.H 8 = some (⟨0, 1, 1, [.int .i64 p, (V.list (List.length (l)) (List.map (V.int .i64) (l)))]⟩) ∧ st.H 72 = some (⟨0, 1, 1, [.int .i64 0, .nils]⟩) ∧ st.H 904 = some (⟨0, 1, 1, [.int .i64 p, v]⟩) ∧ 904 < st.nx ∧ GV .i64 904 st v (tab i (fun k => rdI l (2 * k)))) ((l.length + 1) / 2) ?_ ?_ 0 _ (by omega) ?_
      · rintro i st hi ⟨v, he0, he1, he2, he3, he4, he5, he6, he7, he8⟩ next
        have tl := tab_len i (fun k => rdI l (2 * k))
        have ts : tab (i + 1) (fun k => rdI l (2 * k)) = tab i (fun k => rdI l (2 * k)) ++ [rdI l (2 * i)] := tab_succ _ _
        have c1 : 2 * (i : Int) < l.length := by omega
        have c2 : 2 * i < l.length := by omega
        have c0 : (0 : Int) ≤ 2 * (i : Int) := by omega
        have ct : (2 * (i : Int)).toNat = 2 * i := by omega
        have w3 : IntKind.i64.wrap (2 * (i : Int) + 2) = 2 * ((i : Int) + 1) := by rw [IntWalk.i64_in _ (by omega)]; omega
        have c3 : (i + 1) * 8 ≤ 140737488355328 := by omega
        have fin : ∀ (st' : St) (v' : V), st'.fr 1 = .ptr 8 0 0 → st'.fr 2 = .ptr 72 0 0 → st'.fr 5 = .ptr 904 0 0 → st'.fr 6 = .int .i64 (2 * ((i : Int) + 1)) → st'.H 8 = some ⟨0, 1, 1, [.int .i64 p, (V.list (List.length (l)) (List.map (V.int .i64) (l)))]⟩ → st'.H 72 = some ⟨0, 1, 1, [.int .i64 0, .nils]⟩ → st'.H 904 = some ⟨0, 1, 1, [.int .i64 p, v']⟩ → 904 < st'.nx → GV .i64 904 st' v' (tab i (fun k => rdI l (2 * k)) ++ [rdI l (2 * i)]) → WL E0 false _ _ st' := fun st' v' a1 a2 a3 a4 a5 a6 a7 a8 a9 =>
          next st' ⟨v', a1, a2, a3, by rw [a4]; simp, a5, a6, a7, a8, by rw [ts]; exact a9⟩
        have n1 := ne_new he7
        have n2 := ne_new (show 72 < st.nx by omega)
        have n3 := ne_new (show 8 < st.nx by omega)
        generalize tab i (fun k => rdI l (2 * k)) = A at *
        rcases he8 with ⟨rfl, rfl⟩ | ⟨id, ver, rfl, hH, hxx, hlo⟩
        · simp [go_sem, -map_replicate, -map_set, -map_append, -map_reverse, -map_take, -map_drop, -map_tail, -any_map, -all_map, -mapM_map, -map_map, slL, szI, ldI, zI, undL, apL, setI, rdI_get, Nat.add_one_le_iff, fillV, zeros1, zeros0, appendD, segV, lvO, goneOf, sliceD, bound, Nat.add_assoc, szL, ldL, setCs0, setCs1, setCs2, setCsA2, setCsA3, ldM, fM0, fM1, szM, zM, plM0, plM1, agM, paM, ldJ, fJ0, fJ1, fJ2, szJ, zJ, plJ0, plJ1, plJ2, agJ, paJ, he0, he1, he2, he3, he4, he5, he6, c0, c1, c2, ct, w3, n1, n2, n3]
          refine ⟨by kernel_rfl, ?_, ?_⟩
          · obtain ⟨n', hn'⟩ : ∃ n', st.nx = n' + 905 := ⟨st.nx - 905, by omega⟩
            rw [hn']
            kernel_rfl
          exact fin _ _ (by simp [upd, he0]) (by simp [upd, he1]) (by simp [upd, he2]) (by simp [upd]) (by simp [upd, he4, n3]) (by simp [upd, he5, n2]) rfl (by simp <;> omega) (GV.own _ rfl (by simp) (by simp [upd] <;> omega) (by simp) (by omega))
        · have q1 : ¬ id = 904 := by omega
          have q2 : ¬ 904 = id := by omega
          have q3 : ¬ 72 = id := by omega
          have q4 : ¬ 8 = id := by omega
          simp [go_sem, -map_replicate, -map_set, -map_append, -map_reverse, -map_take, -map_drop, -map_tail, -any_map, -all_map, -mapM_map, -map_map, slL, szI, ldI, zI, undL, apL, setI, rdI_get, Nat.add_one_le_iff, fillV, zeros1, zeros0, appendD, segV, lvO, goneOf, sliceD, bound, Nat.add_assoc, szL, ldL, setCs0, setCs1, setCs2, setCsA2, setCsA3, ldM, fM0, fM1, szM, zM, plM0, plM1, agM, paM, ldJ, fJ0, fJ1, fJ2, szJ, zJ, plJ0, plJ1, plJ2, agJ, paJ, he0, he1, he2, he3, he4, he5, he6, c0, c1, c2, ct, w3, hH, tl, c3, q1, q2, q3, q4, ne_new hxx, new_ne hxx, n1, n2, n3]
          refine ⟨by kernel_rfl, ?_, ?_⟩
          · obtain ⟨n', hn'⟩ : ∃ n', st.nx = n' + 905 := ⟨st.nx - 905, by omega⟩
            rw [hn']
            kernel_rfl
          exact fin _ _ (by simp [upd, he0]) (by simp [upd, he1]) (by simp [upd, he2]) (by simp [upd]) (by simp [upd, he4, n3, q4]) (by simp [upd, he5, n2, q3]) rfl (by simp <;> omega) (GV.own _ rfl (by simp [tl]) (by simp [upd, q1]) (by simp <;> omega) hlo)
      · rintro st ⟨v, he0, he1, he2, he3, he4, he5, he6, he7, he8⟩
        have tl := tab_len ((l.length + 1) / 2) (fun k => rdI l (2 * k))
        have hne : tab ((l.length + 1) / 2) (fun k => rdI l (2 * k)) ≠ [] := fun h => by rw [h] at tl; simp at tl; omega
        have c1 : ¬ 2 * (((l.length : Int) + 1) / 2) < l.length := by omega
        rcases he8 with ⟨h, _⟩ | ⟨id, ver, rfl, hH, hxx, hlo⟩
        · exact absurd h hne
        · have q3 : ¬ id = 72 := by omega
          simp [go_sem, -map_replicate, -map_set, -map_append, -map_reverse, -map_take, -map_drop, -map_tail, -any_map, -all_map, -mapM_map, -map_map, slL, szI, ldI, zI, undL, apL, setI, rdI_get, Nat.add_one_le_iff, fillV, zeros1, zeros0, appendD, segV, lvO, goneOf, sliceD, bound, Nat.add_assoc, szL, ldL, setCs0, setCs1, setCs2, setCsA2, setCsA3, ldM, fM0, fM1, szM, zM, plM0, plM1, agM, paM, ldJ, fJ0, fJ1, fJ2, szJ, zJ, plJ0, plJ1, plJ2, agJ, paJ, he0, he1, he2, he3, he4, he5, he6, c1]
          simp [mvcgen_simp, -map_replicate, -map_set, -map_append, -map_reverse, -map_take, -map_drop, -map_tail, -any_map, -all_map, -mapM_map, -map_map, Tryz.f19, halfM, e, e2, he0, he1, he2, he3, he4, he5, he6, hH, q3, szL, ldL, setCs0, setCs1, setCs2, setCsA2, setCsA3, ldM, fM0, fM1, szM, zM, plM0, plM1, agM, paM, ldJ, fJ0, fJ1, fJ2, szJ, zJ, plJ0, plJ1, plJ2, agJ, paJ, ctM, loadD, viewN]
      · refine ⟨.nils, rfl, rfl, rfl, rfl, rfl, rfl, rfl, by simp, .inl ⟨rfl, rfl⟩⟩
theorem run_specHalveMoments (p : Int) (l : List Int) (hl : l.length ≤ 1048576) :
    runv E0 20 [(V.agg [V.int .i64 (p), (V.list (List.length (l)) (List.map (V.int .i64) (l)))])] = some ⟨true, .tup [(V.agg [V.int .i64 ((halfM p l).1), (V.uniq 1 (List.length ((halfM p l).2.1)) (List.map (V.int .i64) ((halfM p l).2.1)))]), .int .i64 (halfM p l).2.2], [.agg [.undef, .undef]]⟩ := by
  have cdk : codeOk Tryz.f20.ntmps (Tryz.f20.body.getD .skip) = true := by kernel_rfl
  refine run_of_WL (fn := Tryz.f20) rfl Tryz.func20 rfl ⟨by simp [Tryz.ntmps20], by simp [wideA, ints], cdk, by simp [Tryz.f20]⟩ ?_
  have h1 := run_l02Are p l (by omega)
  cases e : momB p l with
  | false =>
    rw [e] at h1
    simp [go_sem, -map_replicate, -map_set, -map_append, -map_reverse, -map_take, -map_drop, -map_tail, -any_map, -all_map, -mapM_map, -map_map, slL, szI, ldI, zI, undL, apL, setI, rdI_get, Nat.add_one_le_iff, fillV, zeros1, zeros0, appendD, segV, lvO, goneOf, sliceD, bound, Nat.add_assoc, szL, ldL, setCs0, setCs1, setCs2, setCsA2, setCsA3, ldM, fM0, fM1, szM, zM, plM0, plM1, agM, paM, ldJ, fJ0, fJ1, fJ2, szJ, zJ, plJ0, plJ1, plJ2, agJ, paJ, h1, fillV]
    simp [mvcgen_simp, -map_replicate, -map_set, -map_append, -map_reverse, -map_take, -map_drop, -map_tail, -any_map, -all_map, -mapM_map, -map_map, Tryz.f20, halfM, e, szL, ldL, setCs0, setCs1, setCs2, setCsA2, setCsA3, ldM, fM0, fM1, szM, zM, plM0, plM1, agM, paM, ldJ, fJ0, fJ1, fJ2, szJ, zJ, plJ0, plJ1, plJ2, agJ, paJ, ctM, loadD, viewN]
  | true =>
    rw [e] at h1
    have hll := momB_len e
    have h2 := run_l08Symmetric p l hll.2
    cases e2 : symB l with
    | false =>
      rw [e2] at h2
      simp [go_sem, -map_replicate, -map_set, -map_append, -map_reverse, -map_take, -map_drop, -map_tail, -any_map, -all_map, -mapM_map, -map_map, slL, szI, ldI, zI, undL, apL, setI, rdI_get, Nat.add_one_le_iff, fillV, zeros1, zeros0, appendD, segV, lvO, goneOf, sliceD, bound, Nat.add_assoc, szL, ldL, setCs0, setCs1, setCs2, setCsA2, setCsA3, ldM, fM0, fM1, szM, zM, plM0, plM1, agM, paM, ldJ, fJ0, fJ1, fJ2, szJ, zJ, plJ0, plJ1, plJ2, agJ, paJ, h1, h2, fillV]
      simp [mvcgen_simp, -map_replicate, -map_set, -map_append, -map_reverse, -map_take, -map_drop, -map_tail, -any_map, -all_map, -mapM_map, -map_map, Tryz.f20, halfM, e, e2, szL, ldL, setCs0, setCs1, setCs2, setCsA2, setCsA3, ldM, fM0, fM1, szM, zM, plM0, plM1, agM, paM, ldJ, fJ0, fJ1, fJ2, szJ, zJ, plJ0, plJ1, plJ2, agJ, paJ, ctM, loadD, viewN]
    | true =>
      rw [e2] at h2
      simp [go_sem, -map_replicate, -map_set, -map_append, -map_reverse, -map_take, -map_drop, -map_tail, -any_map, -all_map, -mapM_map, -map_map, slL, szI, ldI, zI, undL, apL, setI, rdI_get, Nat.add_one_le_iff, fillV, zeros1, zeros0, appendD, segV, lvO, goneOf, sliceD, bound, Nat.add_assoc, szL, ldL, setCs0, setCs1, setCs2, setCsA2, setCsA3, ldM, fM0, fM1, szM, zM, plM0, plM1, agM, paM, ldJ, fJ0, fJ1, fJ2, szJ, zJ, plJ0, plJ1, plJ2, agJ, paJ, h1, h2, fillV]
      rw [WL_loop]
      refine WL_count (I := fun i st => ∃ v, st.fr 1 = .ptr 8 0 0 ∧ st.fr 2 = .ptr 72 0 0 ∧ st.fr 4 = .ptr 968 0 0 ∧ st.fr 5 = .int .i64 (2 * (i : Int)) ∧ st.H 8 = some (⟨0, 1, 1, [.int .i64 p, (V.list (List.length (l)) (List.map (V.int .i64) (l)))]⟩) ∧ st.H 72 = some (⟨0, 1, 1, [.int .i64 0, .nils]⟩) ∧ st.H 968 = some (⟨0, 1, 1, [.int .i64 p, v]⟩) ∧ 968 < st.nx ∧ GV .i64 968 st v (tab i (fun k => rdI l (2 * k)))) ((l.length + 1) / 2) ?_ ?_ 0 _ (by omega) ?_
      · rintro i st hi ⟨v, he0, he1, he2, he3, he4, he5, he6, he7, he8⟩ next
        have tl := tab_len i (fun k => rdI l (2 * k))
        have ts : tab (i + 1) (fun k => rdI l (2 * k)) = tab i (fun k => rdI l (2 * k)) ++ [rdI l (2 * i)] := tab_succ _ _
        have c1 : 2 * (i : Int) < l.length := by omega
        have c2 : 2 * i < l.length := by omega
        have c0 : (0 : Int) ≤ 2 * (i : Int) := by omega
        have ct : (2 * (i : Int)).toNat = 2 * i := by omega
        have w3 : IntKind.i64.wrap (2 * (i : Int) + 2) = 2 * ((i : Int) + 1) := by rw [IntWalk.i64_in _ (by omega)]; omega
        have c3 : (i + 1) * 8 ≤ 140737488355328 := by omega
        have fin : ∀ (st' : St) (v' : V), st'.fr 1 = .ptr 8 0 0 → st'.fr 2 = .ptr 72 0 0 → st'.fr 4 = .ptr 968 0 0 → st'.fr 5 = .int .i64 (2 * ((i : Int) + 1)) → st'.H 8 = some ⟨0, 1, 1, [.int .i64 p, (V.list (List.length (l)) (List.map (V.int .i64) (l)))]⟩ → st'.H 72 = some ⟨0, 1, 1, [.int .i64 0, .nils]⟩ → st'.H 968 = some ⟨0, 1, 1, [.int .i64 p, v']⟩ → 968 < st'.nx → GV .i64 968 st' v' (tab i (fun k => rdI l (2 * k)) ++ [rdI l (2 * i)]) → WL E0 false _ _ st' := fun st' v' a1 a2 a3 a4 a5 a6 a7 a8 a9 =>
          next st' ⟨v', a1, a2, a3, by rw [a4]; simp, a5, a6, a7, a8, by rw [ts]; exact a9⟩
        have n1 := ne_new he7
        have n2 := ne_new (show 72 < st.nx by omega)
        have n3 := ne_new (show 8 < st.nx by omega)
        generalize tab i (fun k => rdI l (2 * k)) = A at *
        rcases he8 with ⟨rfl, rfl⟩ | ⟨id, ver, rfl, hH, hxx, hlo⟩
        · simp [go_sem, -map_replicate, -map_set, -map_append, -map_reverse, -map_take, -map_drop, -map_tail, -any_map, -all_map, -mapM_map, -map_map, slL, szI, ldI, zI, undL, apL, setI, rdI_get, Nat.add_one_le_iff, fillV, zeros1, zeros0, appendD, segV, lvO, goneOf, sliceD, bound, Nat.add_assoc, szL, ldL, setCs0, setCs1, setCs2, setCsA2, setCsA3, ldM, fM0, fM1, szM, zM, plM0, plM1, agM, paM, ldJ, fJ0, fJ1, fJ2, szJ, zJ, plJ0, plJ1, plJ2, agJ, paJ, he0, he1, he2, he3, he4, he5, he6, c0, c1, c2, ct, w3, n1, n2, n3]
          refine ⟨by kernel_rfl, ?_, ?_⟩
          · obtain ⟨n', hn'⟩ : ∃ n', st.nx = n' + 969 := ⟨st.nx - 969, by omega⟩
            rw [hn']
            kernel_rfl
          exact fin _ _ (by simp [upd, he0]) (by simp [upd, he1]) (by simp [upd, he2]) (by simp [upd]) (by simp [upd, he4, n3]) (by simp [upd, he5, n2]) rfl (by simp <;> omega) (GV.own _ rfl (by simp) (by simp [upd] <;> omega) (by simp) (by omega))
        · have q1 : ¬ id = 968 := by omega
          have q2 : ¬ 968 = id := by omega
          have q3 : ¬ 72 = id := by omega
          have q4 : ¬ 8 = id := by omega
          simp [go_sem, -map_replicate, -map_set, -map_append, -map_reverse, -map_take, -map_drop, -map_tail, -any_map, -all_map, -mapM_map, -map_map, slL, szI, ldI, zI, undL, apL, setI, rdI_get, Nat.add_one_le_iff, fillV, zeros1, zeros0, appendD, segV, lvO, goneOf, sliceD, bound, Nat.add_assoc, szL, ldL, setCs0, setCs1, setCs2, setCsA2, setCsA3, ldM, fM0, fM1, szM, zM, plM0, plM1, agM, paM, ldJ, fJ0, fJ1, fJ2, szJ, zJ, plJ0, plJ1, plJ2, agJ, paJ, he0, he1, he2, he3, he4, he5, he6, c0, c1, c2, ct, w3, hH, tl, c3, q1, q2, q3, q4, ne_new hxx, new_ne hxx, n1, n2, n3]
          refine ⟨by kernel_rfl, ?_, ?_⟩
          · obtain ⟨n', hn'⟩ : ∃ n', st.nx = n' + 969 := ⟨st.nx - 969, by omega⟩
            rw [hn']
            kernel_rfl
          exact fin _ _ (by simp [upd, he0]) (by simp [upd, he1]) (by simp [upd, he2]) (by simp [upd]) (by simp [upd, he4, n3, q4]) (by simp [upd, he5, n2, q3]) rfl (by simp <;> omega) (GV.own _ rfl (by simp [tl]) (by simp [upd, q1]) (by simp <;> omega) hlo)
      · rintro st ⟨v, he0, he1, he2, he3, he4, he5, he6, he7, he8⟩
        have tl := tab_len ((l.length + 1) / 2) (fun k => rdI l (2 * k))
        have hne : tab ((l.length + 1) / 2) (fun k => rdI l (2 * k)) ≠ [] := fun h => by rw [h] at tl; simp at tl; omega
        have c1 : ¬ 2 * (((l.length : Int) + 1) / 2) < l.length := by omega
        rcases he8 with ⟨h, _⟩ | ⟨id, ver, rfl, hH, hxx, hlo⟩
        · exact absurd h hne
        · have q3 : ¬ id = 72 := by omega
          simp [go_sem, -map_replicate, -map_set, -map_append, -map_reverse, -map_take, -map_drop, -map_tail, -any_map, -all_map, -mapM_map, -map_map, slL, szI, ldI, zI, undL, apL, setI, rdI_get, Nat.add_one_le_iff, fillV, zeros1, zeros0, appendD, segV, lvO, goneOf, sliceD, bound, Nat.add_assoc, szL, ldL, setCs0, setCs1, setCs2, setCsA2, setCsA3, ldM, fM0, fM1, szM, zM, plM0, plM1, agM, paM, ldJ, fJ0, fJ1, fJ2, szJ, zJ, plJ0, plJ1, plJ2, agJ, paJ, he0, he1, he2, he3, he4, he5, he6, c1]
          simp [mvcgen_simp, -map_replicate, -map_set, -map_append, -map_reverse, -map_take, -map_drop, -map_tail, -any_map, -all_map, -mapM_map, -map_map, Tryz.f20, halfM, e, e2, he0, he1, he2, he3, he4, he5, he6, hH, q3, szL, ldL, setCs0, setCs1, setCs2, setCsA2, setCsA3, ldM, fM0, fM1, szM, zM, plM0, plM1, agM, paM, ldJ, fJ0, fJ1, fJ2, szJ, zJ, plJ0, plJ1, plJ2, agJ, paJ, ctM, loadD, viewN]
      · refine ⟨.nils, rfl, rfl, rfl, rfl, rfl, rfl, rfl, by simp, .inl ⟨rfl, rfl⟩⟩


def dblM (p : Int) (l : List Int) : Int × List Int × Int :=
  if momB p l then (if 2 * l.length - 1 ≤ 24 then (p, tab (2 * l.length - 1) (fun k => if k % 2 = 0 then rdI l (k / 2) else 0), 0) else (0, [], 3)) else (0, [], 1)
theorem dblM_len (p : Int) (l : List Int) (hl : l.length ≤ 1048576) : (dblM p l).2.1.length ≤ 1048576 := by
  unfold dblM
  (repeat' split) <;> simp [tab_len] <;> omega
theorem run_implDoubleMoments (p : Int) (l : List Int) (hl : l.length ≤ 1048576) :
    runv E0 22 [(V.agg [V.int .i64 (p), (V.list (List.length (l)) (List.map (V.int .i64) (l)))])] = some ⟨true, .tup [(V.agg [V.int .i64 ((dblM p l).1), (V.uniq 1 (List.length ((dblM p l).2.1)) (List.map (V.int .i64) ((dblM p l).2.1)))]), .int .i64 (dblM p l).2.2], [.agg [.undef, .undef]]⟩ := by
  have cdk : codeOk Tryz.f22.ntmps (Tryz.f22.body.getD .skip) = true := by kernel_rfl
  refine run_of_WL (fn := Tryz.f22) rfl Tryz.func22 rfl ⟨by simp [Tryz.ntmps22], by simp [wideA, ints], cdk, by simp [Tryz.f22]⟩ ?_
  have h1 := run_mcodeA p l (by omega)
  cases e : momB p l with
  | false =>
    rw [e] at h1
    simp [go_sem, -map_replicate, -map_set, -map_append, -map_reverse, -map_take, -map_drop, -map_tail, -any_map, -all_map, -mapM_map, -map_map, slL, szI, ldI, zI, undL, apL, setI, rdI_get, Nat.add_one_le_iff, fillV, zeros1, zeros0, appendD, segV, lvO, goneOf, sliceD, bound, Nat.add_assoc, szL, ldL, setCs0, setCs1, setCs2, setCsA2, setCsA3, ldM, fM0, fM1, szM, zM, plM0, plM1, agM, paM, ldJ, fJ0, fJ1, fJ2, szJ, zJ, plJ0, plJ1, plJ2, agJ, paJ, h1, fillV]
    simp [mvcgen_simp, -map_replicate, -map_set, -map_append, -map_reverse, -map_take, -map_drop, -map_tail, -any_map, -all_map, -mapM_map, -map_map, Tryz.f22, dblM, e, szL, ldL, setCs0, setCs1, setCs2, setCsA2, setCsA3, ldM, fM0, fM1, szM, zM, plM0, plM1, agM, paM, ldJ, fJ0, fJ1, fJ2, szJ, zJ, plJ0, plJ1, plJ2, agJ, paJ, ctM, loadD, viewN]
  | true =>
    rw [e] at h1
    have hll := momB_len e
    have w1 : IntKind.i64.wrap (2 * (l.length : Int)) = 2 * (l.length : Int) := IntWalk.i64_in _ (by omega)
    have w2 : IntKind.i64.wrap (2 * (l.length : Int) - 1) = 2 * (l.length : Int) - 1 := IntWalk.i64_in _ (by omega)
    by_cases e2 : 2 * l.length - 1 ≤ 24
    case neg =>
      have e2' : (24 : Int) < 2 * (l.length : Int) - 1 := by omega
      simp [go_sem, -map_replicate, -map_set, -map_append, -map_reverse, -map_take, -map_drop, -map_tail, -any_map, -all_map, -mapM_map, -map_map, slL, szI, ldI, zI, undL, apL, setI, rdI_get, Nat.add_one_le_iff, fillV, zeros1, zeros0, appendD, segV, lvO, goneOf, sliceD, bound, Nat.add_assoc, szL, ldL, setCs0, setCs1, setCs2, setCsA2, setCsA3, ldM, fM0, fM1, szM, zM, plM0, plM1, agM, paM, ldJ, fJ0, fJ1, fJ2, szJ, zJ, plJ0, plJ1, plJ2, agJ, paJ, h1, w1, w2, e2', fillV]
      simp [mvcgen_simp, -map_replicate, -map_set, -map_append, -map_reverse, -map_take, -map_drop, -map_tail, -any_map, -all_map, -mapM_map, -map_map, Tryz.f22, dblM, e, e2, szL, ldL, setCs0, setCs1, setCs2, setCsA2, setCsA3, ldM, fM0, fM1, szM, zM, plM0, plM1, agM, paM, ldJ, fJ0, fJ1, fJ2, szJ, zJ, plJ0, plJ1, plJ2, agJ, paJ, ctM, loadD, viewN]
    have e2' : ¬ (24 : Int) < 2 * (l.length : Int) - 1 := by omega
    have h1l : 1 ≤ l.length := hll.1
    have hd := seg_tail l
    have hwi : runv E0 82 [(V.agg [V.int .i64 (p), (V.list (List.length (l)) (List.map (V.int .i64) (l)))]), .list 1 (List.map (V.int .i64) (l.take 1))] = some ⟨true, .agg [.int .i64 p, .uniq 1 1 (List.map (V.int .i64) (l.take 1))], [.agg [.undef, .undef], .undef]⟩ := by
      have := run_with p l (l.take 1) (by simp; omega) (by simp; omega)
      have hl1 : (l.take 1).length = 1 := by simp; omega
      rw [hl1] at this
      exact this
    have hs := seg_take l 1
    have z2 : zerosV 2 [V.int .i64 0] = [.int .i64 0, .int .i64 0] := rfl
    simp [go_sem, -map_replicate, -map_set, -map_append, -map_reverse, -map_take, -map_drop, -map_tail, -any_map, -all_map, -mapM_map, -map_map, slL, szI, ldI, zI, undL, apL, setI, rdI_get, Nat.add_one_le_iff, fillV, zeros1, zeros0, appendD, segV, lvO, goneOf, sliceD, bound, Nat.add_assoc, szL, ldL, setCs0, setCs1, setCs2, setCsA2, setCsA3, ldM, fM0, fM1, szM, zM, plM0, plM1, agM, paM, ldJ, fJ0, fJ1, fJ2, szJ, zJ, plJ0, plJ1, plJ2, agJ, paJ, h1, w1, w2, e2', h1l, hd, hs, hwi, z2, fillV]
    refine ⟨by kernel_rfl, by kernel_rfl, ?_⟩
    rw [WL_loop]
    have gx : ∀ i, i < l.length - 1 → tab (2 * (i + 1) + 1) (fun k => if k % 2 = 0 then rdI l (k / 2) else 0) = tab (2 * i + 1) (fun k => if k % 2 = 0 then rdI l (k / 2) else 0) ++ [0, rdI l (i + 1)] := fun i hi => by
      rw [show 2 * (i + 1) + 1 = (2 * i + 1) + 1 + 1 by omega, tab_succ, tab_succ, List.append_assoc]
      congr 1
      have e1 : ¬ (2 * i + 1) % 2 = 0 := by omega
      have e2 : (2 * i + 1 + 1) % 2 = 0 := by omega
      have e3 : (2 * i + 1 + 1) / 2 = i + 1 := by omega
      simp [e1, e2, e3]
    refine WL_count (I := fun i st => st.fr 2 = .ptr 72 0 0 ∧ st.fr 5 = .ptr 1224 0 0 ∧ st.fr 28 = .list (l.length - 1) (l.tail.map (V.int .i64)) ∧ st.fr 29 = .int .i64 ((l.length - 1 : Nat) : Int) ∧ st.fr 30 = .int .i64 i ∧ st.H 72 = some (⟨0, 1, 1, [.int .i64 0, .nils]⟩) ∧ st.H 1224 = some (⟨0, 1, 1, [.int .i64 p, .sl 1161 i 0 (2 * i + 1)]⟩) ∧ st.H 1161 = some (⟨i, 2, 1, (tab (2 * i + 1) (fun k => if k % 2 = 0 then rdI l (k / 2) else 0)).map (V.int .i64)⟩) ∧ 1224 < st.nx) (l.length - 1) ?_ ?_ 0 _ (by omega) ?_
    · rintro i st hi ⟨he0, he1, he2, he3, he4, he5, he6, he7, he8⟩ next
      have tl := tab_len (2 * i + 1) (fun k => if k % 2 = 0 then rdI l (k / 2) else 0)
      have ts := gx i hi
      have c1 : (i : Int) < ((l.length - 1 : Nat) : Int) := by omega
      have c3 : (2 * i + 3) * 8 ≤ 140737488355328 := by omega
      have hit : i < l.tail.length := by simp; omega
      have hr : l.tail[i] = rdI l (i + 1) := by rw [rdI_get hit, rdI_tail]
      have w3 : IntKind.i64.wrap ((i : Int) + 1) = (i : Int) + 1 := IntWalk.i64_in _ (by omega)
      have n1 := ne_new he8
      have n2 := ne_new (show 1161 < st.nx by omega)
      have n3 := new_ne (show 1161 < st.nx by omega)
      have n4 := ne_new (show 72 < st.nx by omega)
      generalize tab (2 * i + 1) (fun k => if k % 2 = 0 then rdI l (k / 2) else 0) = A at *
      simp [go_sem, -map_replicate, -map_set, -map_append, -map_reverse, -map_take, -map_drop, -map_tail, -any_map, -all_map, -mapM_map, -map_map, slL, szI, ldI, zI, undL, apL, setI, rdI_get, Nat.add_one_le_iff, fillV, zeros1, zeros0, appendD, segV, lvO, goneOf, sliceD, bound, Nat.add_assoc, szL, ldL, setCs0, setCs1, setCs2, setCsA2, setCsA3, ldM, fM0, fM1, szM, zM, plM0, plM1, agM, paM, ldJ, fJ0, fJ1, fJ2, szJ, zJ, plJ0, plJ1, plJ2, agJ, paJ, he0, he1, he2, he3, he4, he5, he6, he7, hi, tl, c1, c3, w3, z2, n1, n2, n3, n4, hit, rdI_tail]
      refine next _ ?_
      simp [upd, row, -map_replicate, -map_set, -map_append, -map_reverse, -map_take, -map_drop, -map_tail, -map_map, he0, he1, he2, he3, he4, he5, he6, he7, ts, n1, n2, n4]
      repeat' apply And.intro
      all_goals first | omega | (simp; done)
    · rintro st ⟨he0, he1, he2, he3, he4, he5, he6, he7, he8⟩
      have ee : 2 * (l.length - 1) + 1 = 2 * l.length - 1 := by omega
      rw [ee] at he6 he7
      have tl := tab_len (2 * l.length - 1) (fun k => if k % 2 = 0 then rdI l (k / 2) else 0)
      simp [go_sem, -map_replicate, -map_set, -map_append, -map_reverse, -map_take, -map_drop, -map_tail, -any_map, -all_map, -mapM_map, -map_map, slL, szI, ldI, zI, undL, apL, setI, rdI_get, Nat.add_one_le_iff, fillV, zeros1, zeros0, appendD, segV, lvO, goneOf, sliceD, bound, Nat.add_assoc, szL, ldL, setCs0, setCs1, setCs2, setCsA2, setCsA3, ldM, fM0, fM1, szM, zM, plM0, plM1, agM, paM, ldJ, fJ0, fJ1, fJ2, szJ, zJ, plJ0, plJ1, plJ2, agJ, paJ, he0, he1, he2, he3, he4, he5, he6, he7]
      simp [mvcgen_simp, -map_replicate, -map_set, -map_append, -map_reverse, -map_take, -map_drop, -map_tail, -any_map, -all_map, -mapM_map, -map_map, Tryz.f22, dblM, e, e2, tl, he0, he1, he2, he3, he4, he5, he6, he7, szL, ldL, setCs0, setCs1, setCs2, setCsA2, setCsA3, ldM, fM0, fM1, szM, zM, plM0, plM1, agM, paM, ldJ, fJ0, fJ1, fJ2, szJ, zJ, plJ0, plJ1, plJ2, agJ, paJ, ctM, loadD, viewN]
    · refine ⟨rfl, rfl, rfl, rfl, rfl, rfl, rfl, ?_, by simp⟩
      have : l.take 1 = tab (2 * 0 + 1) (fun k => if k % 2 = 0 then rdI l (k / 2) else 0) := by
        apply eq_tab (by simp; omega)
        intro k hk
        have : k = 0 := by omega
        subst this
        cases l with
        | nil => simp at h1l
        | cons a t => simp [rdI]
      rw [← this]
      rfl
theorem run_specDoubleMoments (p : Int) (l : List Int) (hl : l.length ≤ 1048576) :
    runv E0 23 [(V.agg [V.int .i64 (p), (V.list (List.length (l)) (List.map (V.int .i64) (l)))])] = some ⟨true, .tup [(V.agg [V.int .i64 ((dblM p l).1), (V.uniq 1 (List.length ((dblM p l).2.1)) (List.map (V.int .i64) ((dblM p l).2.1)))]), .int .i64 (dblM p l).2.2], [.agg [.undef, .undef]]⟩ := by
  have cdk : codeOk Tryz.f23.ntmps (Tryz.f23.body.getD .skip) = true := by kernel_rfl
  refine run_of_WL (fn := Tryz.f23) rfl Tryz.func23 rfl ⟨by simp [Tryz.ntmps23], by simp [wideA, ints], cdk, by simp [Tryz.f23]⟩ ?_
  have h1 := run_l02Are p l (by omega)
  cases e : momB p l with
  | false =>
    rw [e] at h1
    simp [go_sem, -map_replicate, -map_set, -map_append, -map_reverse, -map_take, -map_drop, -map_tail, -any_map, -all_map, -mapM_map, -map_map, slL, szI, ldI, zI, undL, apL, setI, rdI_get, Nat.add_one_le_iff, fillV, zeros1, zeros0, appendD, segV, lvO, goneOf, sliceD, bound, Nat.add_assoc, szL, ldL, setCs0, setCs1, setCs2, setCsA2, setCsA3, ldM, fM0, fM1, szM, zM, plM0, plM1, agM, paM, ldJ, fJ0, fJ1, fJ2, szJ, zJ, plJ0, plJ1, plJ2, agJ, paJ, h1, fillV]
    simp [mvcgen_simp, -map_replicate, -map_set, -map_append, -map_reverse, -map_take, -map_drop, -map_tail, -any_map, -all_map, -mapM_map, -map_map, Tryz.f23, dblM, e, szL, ldL, setCs0, setCs1, setCs2, setCsA2, setCsA3, ldM, fM0, fM1, szM, zM, plM0, plM1, agM, paM, ldJ, fJ0, fJ1, fJ2, szJ, zJ, plJ0, plJ1, plJ2, agJ, paJ, ctM, loadD, viewN]
  | true =>
    rw [e] at h1
    have hll := momB_len e
    have w1 : IntKind.i64.wrap (2 * (l.length : Int)) = 2 * (l.length : Int) := IntWalk.i64_in _ (by omega)
    have w2 : IntKind.i64.wrap (2 * (l.length : Int) - 1) = 2 * (l.length : Int) - 1 := IntWalk.i64_in _ (by omega)
    by_cases e2 : 2 * l.length - 1 ≤ 24
    case neg =>
      have e2' : (24 : Int) < 2 * (l.length : Int) - 1 := by omega
      simp [go_sem, -map_replicate, -map_set, -map_append, -map_reverse, -map_take, -map_drop, -map_tail, -any_map, -all_map, -mapM_map, -map_map, slL, szI, ldI, zI, undL, apL, setI, rdI_get, Nat.add_one_le_iff, fillV, zeros1, zeros0, appendD, segV, lvO, goneOf, sliceD, bound, Nat.add_assoc, szL, ldL, setCs0, setCs1, setCs2, setCsA2, setCsA3, ldM, fM0, fM1, szM, zM, plM0, plM1, agM, paM, ldJ, fJ0, fJ1, fJ2, szJ, zJ, plJ0, plJ1, plJ2, agJ, paJ, h1, w1, w2, e2', fillV]
      simp [mvcgen_simp, -map_replicate, -map_set, -map_append, -map_reverse, -map_take, -map_drop, -map_tail, -any_map, -all_map, -mapM_map, -map_map, Tryz.f23, dblM, e, e2, szL, ldL, setCs0, setCs1, setCs2, setCsA2, setCsA3, ldM, fM0, fM1, szM, zM, plM0, plM1, agM, paM, ldJ, fJ0, fJ1, fJ2, szJ, zJ, plJ0, plJ1, plJ2, agJ, paJ, ctM, loadD, viewN]
    have e2' : ¬ (24 : Int) < 2 * (l.length : Int) - 1 := by omega
    have c0 : (1 : Int) ≤ 2 * (l.length : Int) := by omega
    have ct : (2 * (l.length : Int) - 1).toNat = 2 * l.length - 1 := by omega
    have c1 : (2 * l.length - 1) * 8 ≤ 140737488355328 := by omega
    have c2 : (2 * (l.length : Int) - 1) ≤ 9223372036854775807 := by omega
    simp [go_sem, -map_replicate, -map_set, -map_append, -map_reverse, -map_take, -map_drop, -map_tail, -any_map, -all_map, -mapM_map, -map_map, slL, szI, ldI, zI, undL, apL, setI, rdI_get, Nat.add_one_le_iff, fillV, zeros1, zeros0, appendD, segV, lvO, goneOf, sliceD, bound, Nat.add_assoc, szL, ldL, setCs0, setCs1, setCs2, setCsA2, setCsA3, ldM, fM0, fM1, szM, zM, plM0, plM1, agM, paM, ldJ, fJ0, fJ1, fJ2, szJ, zJ, plJ0, plJ1, plJ2, agJ, paJ, h1, w1, w2, e2', c0, ct, c1, c2, zerosI, fillV]
    refine ⟨by kernel_rfl, by kernel_rfl, ?_⟩
    rw [WL_loop]
    refine WL_count (I := fun i st => st.fr 1 = .ptr 8 0 0 ∧ st.fr 2 = .ptr 72 0 0 ∧ st.fr 4 = .ptr 1480 0 0 ∧ st.fr 5 = .int .i64 i ∧ st.H 8 = some (⟨0, 1, 1, [.int .i64 p, (V.list (List.length (l)) (List.map (V.int .i64) (l)))]⟩) ∧ st.H 72 = some (⟨0, 1, 1, [.int .i64 0, .nils]⟩) ∧ st.H 1480 = some (⟨0, 1, 1, [.int .i64 p, .sl 1352 0 0 (2 * l.length - 1)]⟩) ∧ st.H 1352 = some (⟨0, 2, 1, (tab (2 * l.length - 1) (fun k => if k % 2 = 0 ∧ k / 2 < i then rdI l (k / 2) else 0)).map (V.int .i64)⟩) ∧ 1480 < st.nx) l.length ?_ ?_ 0 _ (by omega) ?_
    · rintro i st hi ⟨he0, he1, he2, he3, he4, he5, he6, he7, he8⟩ next
      have tl := tab_len (2 * l.length - 1) (fun k => if k % 2 = 0 ∧ k / 2 < i then rdI l (k / 2) else 0)
      have ts : (tab (2 * l.length - 1) (fun k => if k % 2 = 0 ∧ k / 2 < i then rdI l (k / 2) else 0)).set (2 * i) (rdI l i) = tab (2 * l.length - 1) (fun k => if k % 2 = 0 ∧ k / 2 < i + 1 then rdI l (k / 2) else 0) := by
        rw [tab_set]
        apply tab_ext
        intro k hk
        by_cases h : 2 * i = k
        · subst h
          have e1 : 2 * i % 2 = 0 := by omega
          have e2 : 2 * i / 2 = i := by omega
          simp [e1, e2]
        · have : (k % 2 = 0 ∧ k / 2 < i + 1) ↔ (k % 2 = 0 ∧ k / 2 < i) := by omega
          simp [h, this]
      have d1 : 2 * i < 2 * l.length - 1 := by omega
      have d2 : 2 * (i : Int) < ((2 * l.length - 1 : Nat) : Int) := by omega
      have d0 : (0 : Int) ≤ 2 * (i : Int) := by omega
      have dt : (2 * (i : Int)).toNat = 2 * i := by omega
      have w3 : IntKind.i64.wrap ((i : Int) + 1) = (i : Int) + 1 := IntWalk.i64_in _ (by omega)
      have w4 : IntKind.i64.wrap (2 * (i : Int)) = 2 * (i : Int) := IntWalk.i64_in _ (by omega)
      generalize tab (2 * l.length - 1) (fun k => if k % 2 = 0 ∧ k / 2 < i then rdI l (k / 2) else 0) = A at *
      simp [go_sem, -map_replicate, -map_set, -map_append, -map_reverse, -map_take, -map_drop, -map_tail, -any_map, -all_map, -mapM_map, -map_map, slL, szI, ldI, zI, undL, apL, setI, rdI_get, Nat.add_one_le_iff, fillV, zeros1, zeros0, appendD, segV, lvO, goneOf, sliceD, bound, Nat.add_assoc, szL, ldL, setCs0, setCs1, setCs2, setCsA2, setCsA3, ldM, fM0, fM1, szM, zM, plM0, plM1, agM, paM, ldJ, fJ0, fJ1, fJ2, szJ, zJ, plJ0, plJ1, plJ2, agJ, paJ, he0, he1, he2, he3, he4, he5, he6, he7, hi, tl, d0, d1, d2, dt, w3, w4]
      refine ⟨by kernel_rfl, by kernel_rfl, next _ ?_⟩
      simp [upd, row, -map_replicate, -map_set, -map_append, -map_reverse, -map_take, -map_drop, -map_tail, -map_map, he0, he1, he2, he3, he4, he5, he6, he7, ts]
      try omega
    · rintro st ⟨he0, he1, he2, he3, he4, he5, he6, he7, he8⟩
      have te : tab (2 * l.length - 1) (fun k => if k % 2 = 0 ∧ k / 2 < l.length then rdI l (k / 2) else 0) = tab (2 * l.length - 1) (fun k => if k % 2 = 0 then rdI l (k / 2) else 0) := by
        apply tab_ext
        intro k hk
        have : k / 2 < l.length := by omega
        simp [this]
      rw [te] at he7
      have tl := tab_len (2 * l.length - 1) (fun k => if k % 2 = 0 then rdI l (k / 2) else 0)
      simp [go_sem, -map_replicate, -map_set, -map_append, -map_reverse, -map_take, -map_drop, -map_tail, -any_map, -all_map, -mapM_map, -map_map, slL, szI, ldI, zI, undL, apL, setI, rdI_get, Nat.add_one_le_iff, fillV, zeros1, zeros0, appendD, segV, lvO, goneOf, sliceD, bound, Nat.add_assoc, szL, ldL, setCs0, setCs1, setCs2, setCsA2, setCsA3, ldM, fM0, fM1, szM, zM, plM0, plM1, agM, paM, ldJ, fJ0, fJ1, fJ2, szJ, zJ, plJ0, plJ1, plJ2, agJ, paJ, he0, he1, he2, he3, he4, he5, he6, he7]
      simp [mvcgen_simp, -map_replicate, -map_set, -map_append, -map_reverse, -map_take, -map_drop, -map_tail, -any_map, -all_map, -mapM_map, -map_map, Tryz.f23, dblM, e, e2, tl, he0, he1, he2, he3, he4, he5, he6, he7, szL, ldL, setCs0, setCs1, setCs2, setCsA2, setCsA3, ldM, fM0, fM1, szM, zM, plM0, plM1, agM, paM, ldJ, fJ0, fJ1, fJ2, szJ, zJ, plJ0, plJ1, plJ2, agJ, paJ, ctM, loadD, viewN]
    · refine ⟨rfl, rfl, rfl, rfl, rfl, rfl, rfl, ?_, by simp⟩
      have : tab (2 * l.length - 1) (fun k => if k % 2 = 0 ∧ k / 2 < 0 then rdI l (k / 2) else 0) = List.replicate (2 * l.length - 1) 0 := by
        rw [tab_replicate]
        apply tab_ext
        intro k hk
        simp
      rw [this]
      rfl

end Go.Proofs.YtabnganndcmcnaaGreat.Ev
