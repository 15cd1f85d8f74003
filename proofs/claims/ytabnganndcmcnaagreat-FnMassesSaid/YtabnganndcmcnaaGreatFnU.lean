/- DivideMoments, HalveMoments and DoubleMoments: both texts and the laws. Conditions: none. -/
import Derived.Test.YtabnganndcmcnaaGreatFnS
import Derived.Test.YtabnganndcmcnaaGreatFnQ
set_option linter.unusedSimpArgs false
set_option linter.unusedVariables false
namespace Go.Proofs.YtabnganndcmcnaaGreat.Ev
open Go Go.Proofs
open List (map_replicate map_set map_append map_reverse map_take map_drop map_tail any_map all_map mapM_map map_map)
set_option maxRecDepth 4000
set_option maxHeartbeats 4000000

/-! ### DivideMoments -/
theorem run_Divide1 (p c t : Int) (l : List Int) : runv E0 79 [.ref [.int .i64 p, (V.list (List.length (l)) (List.map (V.int .i64) (l)))] 0, .ref [.int .i64 c] 0, .ref [.int .i64 t] 0] = some ⟨true, .bool (hasB p c && hasB p t), [.undef, .undef, .undef]⟩ := by
  have cdk : codeOk Tryz.f79.ntmps (Tryz.f79.body.getD .skip) = true := by kernel_rfl
  refine run_of_WL (fn := Tryz.f79) rfl Tryz.func79 rfl ⟨by simp [Tryz.ntmps79], by simp [wideA, ints], cdk, by simp [Tryz.f79]⟩ ?_
  cases e : hasB p c <;> simp [go_sem, -map_replicate, -map_set, -map_append, -map_reverse, -map_take, -map_drop, -map_tail, -any_map, -all_map, -mapM_map, -map_map, slL, szI, ldI, zI, undL, apL, setI, rdI_get, Nat.add_one_le_iff, fillV, zeros1, zeros0, appendD, segV, lvO, goneOf, sliceD, bound, Nat.add_assoc, szL, ldL, setCs0, setCs1, setCs2, setCsA2, setCsA3, ldM, fM0, fM1, szM, zM, plM0, plM1, agM, paM, ldJ, fJ0, fJ1, fJ2, szJ, zJ, plJ0, plJ1, plJ2, agJ, paJ, run_Mfield, run_has, e] <;> (refine ⟨by kernel_rfl, by kernel_rfl, ?_⟩) <;> simp [mvcgen_simp, -map_replicate, -map_set, -map_append, -map_reverse, -map_take, -map_drop, -map_tail, -any_map, -all_map, -mapM_map, -map_map, Tryz.f79, e]

def dvd (p : Int) (l : List Int) (c t : Int) : Nat → Int
  | 0 => t
  | k + 1 => (rdI l k + c * dvd p l c t k) % p
def divM (p : Int) (l : List Int) (c t : Int) : Int × List Int × Int :=
  if momB p l then (if hasB p c && hasB p t then (if l.length = 24 then (0, [], 3) else (p, tab (l.length + 1) (dvd p l c t), 0)) else (0, [], 2)) else (0, [], 1)
theorem divM_len (p : Int) (l : List Int) (c t : Int) (hl : l.length ≤ 1048576) : (divM p l c t).2.1.length ≤ 1048576 := by
  unfold divM
  split
  · rename_i h
    have := momB_len h
    (repeat' split) <;> simp [tab_len] <;> omega
  · simp
theorem dvd_range {p c t : Int} (hp : 2 ≤ p ∧ p ≤ 10007) (ht : 0 ≤ t ∧ t < p) (l : List Int) : ∀ k, 0 ≤ dvd p l c t k ∧ dvd p l c t k < p
  | 0 => ht
  | k + 1 => mod_small hp _

theorem run_implDivideMoments (p : Int) (l : List Int) (c t : Int) (hl : l.length ≤ 1048576) :
    runv E0 9 [(V.agg [V.int .i64 (p), (V.list (List.length (l)) (List.map (V.int .i64) (l)))]), .int .i64 c, .int .i64 t] = some ⟨true, .tup [(V.agg [V.int .i64 ((divM p l c t).1), (V.uniq 1 (List.length ((divM p l c t).2.1)) (List.map (V.int .i64) ((divM p l c t).2.1)))]), .int .i64 (divM p l c t).2.2], [.agg [.undef, .undef], .undef, .undef]⟩ := by
  have cdk : codeOk Tryz.f9.ntmps (Tryz.f9.body.getD .skip) = true := by kernel_rfl
  refine run_of_WL (fn := Tryz.f9) rfl Tryz.func9 rfl ⟨by simp [Tryz.ntmps9], by simp [wideA, ints], cdk, by simp [Tryz.f9]⟩ ?_
  have h1 := run_mcode0 p l 79 [] [.ref [.int .i64 p, (V.list (List.length (l)) (List.map (V.int .i64) (l)))] 0, .ref [.int .i64 c] 0, .ref [.int .i64 t] 0] (hasB p c && hasB p t) (by omega) (fv_ref3 _ _ _ _ _ _) (fun H b => by
    have := run_Divide1 p c t l
    simp [modesOf, callD, prepL, prepA, purN, idsN, depth, this, nodupB, flatO, noTup, backW, widthOk, wideA, adopt, adoptA, adoptC, treeN])
  cases e : momB p l with
  | false =>
    rw [e] at h1
    simp [go_sem, -map_replicate, -map_set, -map_append, -map_reverse, -map_take, -map_drop, -map_tail, -any_map, -all_map, -mapM_map, -map_map, slL, szI, ldI, zI, undL, apL, setI, rdI_get, Nat.add_one_le_iff, fillV, zeros1, zeros0, appendD, segV, lvO, goneOf, sliceD, bound, Nat.add_assoc, szL, ldL, setCs0, setCs1, setCs2, setCsA2, setCsA3, ldM, fM0, fM1, szM, zM, plM0, plM1, agM, paM, ldJ, fJ0, fJ1, fJ2, szJ, zJ, plJ0, plJ1, plJ2, agJ, paJ, h1, fillV]
    simp [mvcgen_simp, -map_replicate, -map_set, -map_append, -map_reverse, -map_take, -map_drop, -map_tail, -any_map, -all_map, -mapM_map, -map_map, Tryz.f9, divM, e, szL, ldL, setCs0, setCs1, setCs2, setCsA2, setCsA3, ldM, fM0, fM1, szM, zM, plM0, plM1, agM, paM, ldJ, fJ0, fJ1, fJ2, szJ, zJ, plJ0, plJ1, plJ2, agJ, paJ, ctM, loadD, viewN]
  | true =>
    rw [e] at h1
    cases e2 : (hasB p c && hasB p t) with
    | false =>
      rw [e2] at h1
      simp [go_sem, -map_replicate, -map_set, -map_append, -map_reverse, -map_take, -map_drop, -map_tail, -any_map, -all_map, -mapM_map, -map_map, slL, szI, ldI, zI, undL, apL, setI, rdI_get, Nat.add_one_le_iff, fillV, zeros1, zeros0, appendD, segV, lvO, goneOf, sliceD, bound, Nat.add_assoc, szL, ldL, setCs0, setCs1, setCs2, setCsA2, setCsA3, ldM, fM0, fM1, szM, zM, plM0, plM1, agM, paM, ldJ, fJ0, fJ1, fJ2, szJ, zJ, plJ0, plJ1, plJ2, agJ, paJ, h1, fillV]
      simp [mvcgen_simp, -map_replicate, -map_set, -map_append, -map_reverse, -map_take, -map_drop, -map_tail, -any_map, -all_map, -mapM_map, -map_map, Tryz.f9, divM, e, e2, szL, ldL, setCs0, setCs1, setCs2, setCsA2, setCsA3, ldM, fM0, fM1, szM, zM, plM0, plM1, agM, paM, ldJ, fJ0, fJ1, fJ2, szJ, zJ, plJ0, plJ1, plJ2, agJ, paJ, ctM, loadD, viewN]
    | true =>
      rw [e2] at h1
      by_cases e3 : l.length = 24
      · have e3i : (l.length : Int) = 24 := by omega
        simp [go_sem, -map_replicate, -map_set, -map_append, -map_reverse, -map_take, -map_drop, -map_tail, -any_map, -all_map, -mapM_map, -map_map, slL, szI, ldI, zI, undL, apL, setI, rdI_get, Nat.add_one_le_iff, fillV, zeros1, zeros0, appendD, segV, lvO, goneOf, sliceD, bound, Nat.add_assoc, szL, ldL, setCs0, setCs1, setCs2, setCsA2, setCsA3, ldM, fM0, fM1, szM, zM, plM0, plM1, agM, paM, ldJ, fJ0, fJ1, fJ2, szJ, zJ, plJ0, plJ1, plJ2, agJ, paJ, h1, fillV, e3i]
        simp [mvcgen_simp, -map_replicate, -map_set, -map_append, -map_reverse, -map_take, -map_drop, -map_tail, -any_map, -all_map, -mapM_map, -map_map, Tryz.f9, divM, e, e2, e3, szL, ldL, setCs0, setCs1, setCs2, setCsA2, setCsA3, ldM, fM0, fM1, szM, zM, plM0, plM1, agM, paM, ldJ, fJ0, fJ1, fJ2, szJ, zJ, plJ0, plJ1, plJ2, agJ, paJ, ctM, loadD, viewN]
      · have hll := momB_len e
        have hp := momB_prime e
        have e2' := e2
        rw [Bool.and_eq_true] at e2'
        have hc := hasB_range e2'.1
        have ht := hasB_range e2'.2
        have e3' : ¬ (l.length : Int) = 24 := by omega
        have hwi : runv E0 82 [(V.agg [V.int .i64 (p), (V.list (List.length (l)) (List.map (V.int .i64) (l)))]), .list 1 [.int .i64 t]] = some ⟨true, .agg [.int .i64 p, .uniq 1 1 [.int .i64 t]], [.agg [.undef, .undef], .undef]⟩ := run_with p l [t] (by simp) (by simp)
        simp [go_sem, -map_replicate, -map_set, -map_append, -map_reverse, -map_take, -map_drop, -map_tail, -any_map, -all_map, -mapM_map, -map_map, slL, szI, ldI, zI, undL, apL, setI, rdI_get, Nat.add_one_le_iff, fillV, zeros1, zeros0, appendD, segV, lvO, goneOf, sliceD, bound, Nat.add_assoc, szL, ldL, setCs0, setCs1, setCs2, setCsA2, setCsA3, ldM, fM0, fM1, szM, zM, plM0, plM1, agM, paM, ldJ, fJ0, fJ1, fJ2, szJ, zJ, plJ0, plJ1, plJ2, agJ, paJ, h1, fillV, e3', hwi]
        rw [WL_loop]
        refine WL_count (I := fun i st => st.fr 3 = .ptr 24 0 0 ∧ st.fr 4 = .ptr 88 0 0 ∧ st.fr 6 = .ptr 216 0 0 ∧ st.fr 9 = .ptr 1240 0 0 ∧ st.fr 29 = (V.list (List.length (l)) (List.map (V.int .i64) (l))) ∧ st.fr 30 = .int .i64 l.length ∧ st.fr 31 = .int .i64 i ∧ st.H 24 = some (⟨0, 1, 1, [.int .i64 p, (V.list (List.length (l)) (List.map (V.int .i64) (l)))]⟩) ∧ st.H 88 = some (⟨0, 1, 1, [.int .i64 c]⟩) ∧ st.H 216 = some (⟨0, 1, 1, [.int .i64 0, .nils]⟩) ∧ st.H 1240 = some (⟨0, 1, 1, [.int .i64 p, .sl 1177 i 0 (i + 1)]⟩) ∧ st.H 1177 = some (⟨i, 2, 1, (tab (i + 1) (dvd p l c t)).map (V.int .i64)⟩) ∧ 1240 < st.nx) l.length ?_ ?_ 0 _ (by omega) ?_
        · rintro i st hi ⟨he0, he1, he2, he3, he4, he5, he6, he7, he8, he9, he10, he11, he12⟩ next
          have tl := tab_len (i + 1) (dvd p l c t)
          have tr : rdI (tab (i + 1) (dvd p l c t)) i = dvd p l c t i := tab_rd (by omega)
          have ts : tab (i + 1 + 1) (dvd p l c t) = tab (i + 1) (dvd p l c t) ++ [(rdI l i + c * dvd p l c t i) % p] := tab_succ _ _
          have r1 := momB_rd e hi
          have r2 := dvd_range (c := c) hp ht l i
          have hm := mul_small hp hc r2
          have w1 : IntKind.i64.wrap (c * dvd p l c t i) = c * dvd p l c t i := IntWalk.i64_in _ (by omega)
          have w2 : IntKind.i64.wrap (rdI l i + c * dvd p l c t i) = rdI l i + c * dvd p l c t i := IntWalk.i64_in _ (by omega)
          have w3 : IntKind.i64.wrap ((i : Int) + 1) = (i : Int) + 1 := IntWalk.i64_in _ (by omega)
          have c3 : (i + 2) * 8 ≤ 140737488355328 := by omega
          have c4 : (i : Int) < (i : Int) + 1 := by omega
          have hmod := run_mod p (rdI l i + c * dvd p l c t i) hp
          have hpn : ¬ p = 0 := by omega
          have htm : (rdI l i + c * dvd p l c t i).tmod p = (rdI l i + c * dvd p l c t i) % p := Int.tmod_eq_emod_of_nonneg (by omega)
          have n1 := ne_new he12
          have n2 := ne_new (show 1177 < st.nx by omega)
          have n3 := new_ne (show 1177 < st.nx by omega)
          simp [go_sem, -map_replicate, -map_set, -map_append, -map_reverse, -map_take, -map_drop, -map_tail, -any_map, -all_map, -mapM_map, -map_map, slL, szI, ldI, zI, undL, apL, setI, rdI_get, Nat.add_one_le_iff, fillV, zeros1, zeros0, appendD, segV, lvO, goneOf, sliceD, bound, Nat.add_assoc, szL, ldL, setCs0, setCs1, setCs2, setCsA2, setCsA3, ldM, fM0, fM1, szM, zM, plM0, plM1, agM, paM, ldJ, fJ0, fJ1, fJ2, szJ, zJ, plJ0, plJ1, plJ2, agJ, paJ, he0, he1, he2, he3, he4, he5, he6, he7, he8, he9, he10, he11, hi, tl, tr, w1, w2, w3, c3, c4, run_Mfield, hmod, n1, n2, n3]
          refine ⟨by kernel_rfl, by kernel_rfl, next _ ?_⟩
          have n4 := ne_new (show 24 < st.nx by omega)
          have n5 := ne_new (show 88 < st.nx by omega)
          have n6 := ne_new (show 216 < st.nx by omega)
          simp [upd, row, -map_replicate, -map_set, -map_append, -map_reverse, -map_take, -map_drop, -map_tail, -map_map, he0, he1, he2, he3, he4, he5, he6, he7, he8, he9, he10, he11, ts, n1, n2, n4, n5, n6]
          repeat' apply And.intro
          all_goals first | omega | (simp; done)
        · rintro st ⟨he0, he1, he2, he3, he4, he5, he6, he7, he8, he9, he10, he11, he12⟩
          have tl := tab_len (l.length + 1) (dvd p l c t)
          simp [go_sem, -map_replicate, -map_set, -map_append, -map_reverse, -map_take, -map_drop, -map_tail, -any_map, -all_map, -mapM_map, -map_map, slL, szI, ldI, zI, undL, apL, setI, rdI_get, Nat.add_one_le_iff, fillV, zeros1, zeros0, appendD, segV, lvO, goneOf, sliceD, bound, Nat.add_assoc, szL, ldL, setCs0, setCs1, setCs2, setCsA2, setCsA3, ldM, fM0, fM1, szM, zM, plM0, plM1, agM, paM, ldJ, fJ0, fJ1, fJ2, szJ, zJ, plJ0, plJ1, plJ2, agJ, paJ, he0, he1, he2, he3, he4, he5, he6, he7, he8, he9, he10, he11]
          simp [mvcgen_simp, -map_replicate, -map_set, -map_append, -map_reverse, -map_take, -map_drop, -map_tail, -any_map, -all_map, -mapM_map, -map_map, Tryz.f9, divM, e, e2, e3, tl, he0, he1, he2, he3, he4, he5, he6, he7, he8, he9, he10, he11, szL, ldL, setCs0, setCs1, setCs2, setCsA2, setCsA3, ldM, fM0, fM1, szM, zM, plM0, plM1, agM, paM, ldJ, fJ0, fJ1, fJ2, szJ, zJ, plJ0, plJ1, plJ2, agJ, paJ, ctM, loadD, viewN]
        · refine ⟨rfl, rfl, rfl, rfl, rfl, rfl, rfl, rfl, rfl, rfl, rfl, rfl, by simp⟩
theorem run_specDivideMoments (p : Int) (l : List Int) (c t : Int) (hl : l.length ≤ 1048576) :
    runv E0 10 [(V.agg [V.int .i64 (p), (V.list (List.length (l)) (List.map (V.int .i64) (l)))]), .int .i64 c, .int .i64 t] = some ⟨true, .tup [(V.agg [V.int .i64 ((divM p l c t).1), (V.uniq 1 (List.length ((divM p l c t).2.1)) (List.map (V.int .i64) ((divM p l c t).2.1)))]), .int .i64 (divM p l c t).2.2], [.agg [.undef, .undef], .undef, .undef]⟩ := by
  have cdk : codeOk Tryz.f10.ntmps (Tryz.f10.body.getD .skip) = true := by kernel_rfl
  refine run_of_WL (fn := Tryz.f10) rfl Tryz.func10 rfl ⟨by simp [Tryz.ntmps10], by simp [wideA, ints], cdk, by simp [Tryz.f10]⟩ ?_
  have h1 := run_l08Number2 p l c t (by omega)
  have z2 : zerosV 2 [V.int .i64 0] = [.int .i64 0, .int .i64 0] := rfl
  cases e : momB p l with
  | false =>
    rw [e] at h1
    simp [go_sem, -map_replicate, -map_set, -map_append, -map_reverse, -map_take, -map_drop, -map_tail, -any_map, -all_map, -mapM_map, -map_map, slL, szI, ldI, zI, undL, apL, setI, rdI_get, Nat.add_one_le_iff, fillV, zeros1, zeros0, appendD, segV, lvO, goneOf, sliceD, bound, Nat.add_assoc, szL, ldL, setCs0, setCs1, setCs2, setCsA2, setCsA3, ldM, fM0, fM1, szM, zM, plM0, plM1, agM, paM, ldJ, fJ0, fJ1, fJ2, szJ, zJ, plJ0, plJ1, plJ2, agJ, paJ, h1, fillV, z2]
    simp [mvcgen_simp, -map_replicate, -map_set, -map_append, -map_reverse, -map_take, -map_drop, -map_tail, -any_map, -all_map, -mapM_map, -map_map, Tryz.f10, divM, e, szL, ldL, setCs0, setCs1, setCs2, setCsA2, setCsA3, ldM, fM0, fM1, szM, zM, plM0, plM1, agM, paM, ldJ, fJ0, fJ1, fJ2, szJ, zJ, plJ0, plJ1, plJ2, agJ, paJ, ctM, loadD, viewN]
  | true =>
    rw [e] at h1
    cases e2 : (hasB p c && hasB p t) with
    | false =>
      rw [e2] at h1
      simp [go_sem, -map_replicate, -map_set, -map_append, -map_reverse, -map_take, -map_drop, -map_tail, -any_map, -all_map, -mapM_map, -map_map, slL, szI, ldI, zI, undL, apL, setI, rdI_get, Nat.add_one_le_iff, fillV, zeros1, zeros0, appendD, segV, lvO, goneOf, sliceD, bound, Nat.add_assoc, szL, ldL, setCs0, setCs1, setCs2, setCsA2, setCsA3, ldM, fM0, fM1, szM, zM, plM0, plM1, agM, paM, ldJ, fJ0, fJ1, fJ2, szJ, zJ, plJ0, plJ1, plJ2, agJ, paJ, h1, fillV, z2]
      simp [mvcgen_simp, -map_replicate, -map_set, -map_append, -map_reverse, -map_take, -map_drop, -map_tail, -any_map, -all_map, -mapM_map, -map_map, Tryz.f10, divM, e, e2, szL, ldL, setCs0, setCs1, setCs2, setCsA2, setCsA3, ldM, fM0, fM1, szM, zM, plM0, plM1, agM, paM, ldJ, fJ0, fJ1, fJ2, szJ, zJ, plJ0, plJ1, plJ2, agJ, paJ, ctM, loadD, viewN]
    | true =>
      rw [e2] at h1
      by_cases e3 : l.length = 24
      · have e3i : (l.length : Int) = 24 := by omega
        simp [go_sem, -map_replicate, -map_set, -map_append, -map_reverse, -map_take, -map_drop, -map_tail, -any_map, -all_map, -mapM_map, -map_map, slL, szI, ldI, zI, undL, apL, setI, rdI_get, Nat.add_one_le_iff, fillV, zeros1, zeros0, appendD, segV, lvO, goneOf, sliceD, bound, Nat.add_assoc, szL, ldL, setCs0, setCs1, setCs2, setCsA2, setCsA3, ldM, fM0, fM1, szM, zM, plM0, plM1, agM, paM, ldJ, fJ0, fJ1, fJ2, szJ, zJ, plJ0, plJ1, plJ2, agJ, paJ, h1, fillV, e3i, z2]
        simp [mvcgen_simp, -map_replicate, -map_set, -map_append, -map_reverse, -map_take, -map_drop, -map_tail, -any_map, -all_map, -mapM_map, -map_map, Tryz.f10, divM, e, e2, e3, szL, ldL, setCs0, setCs1, setCs2, setCsA2, setCsA3, ldM, fM0, fM1, szM, zM, plM0, plM1, agM, paM, ldJ, fJ0, fJ1, fJ2, szJ, zJ, plJ0, plJ1, plJ2, agJ, paJ, ctM, loadD, viewN]
      · have hll := momB_len e
        have hp := momB_prime e
        have e2' := e2
        rw [Bool.and_eq_true] at e2'
        have hc := hasB_range e2'.1
        have ht := hasB_range e2'.2
        have e3' : ¬ (l.length : Int) = 24 := by omega
        simp [go_sem, -map_replicate, -map_set, -map_append, -map_reverse, -map_take, -map_drop, -map_tail, -any_map, -all_map, -mapM_map, -map_map, slL, szI, ldI, zI, undL, apL, setI, rdI_get, Nat.add_one_le_iff, fillV, zeros1, zeros0, appendD, segV, lvO, goneOf, sliceD, bound, Nat.add_assoc, szL, ldL, setCs0, setCs1, setCs2, setCsA2, setCsA3, ldM, fM0, fM1, szM, zM, plM0, plM1, agM, paM, ldJ, fJ0, fJ1, fJ2, szJ, zJ, plJ0, plJ1, plJ2, agJ, paJ, h1, fillV, e3', z2]
        rw [WL_loop]
        refine WL_count (I := fun i st => st.fr 1 = .int .i64 c ∧ st.fr 3 = .ptr 24 0 0 ∧ st.fr 6 = .ptr 88 0 0 ∧ st.fr 9 = .ptr 1560 0 0 ∧ st.fr 10 = .int .i64 i ∧ st.H 24 = some (⟨0, 1, 1, [.int .i64 p, (V.list (List.length (l)) (List.map (V.int .i64) (l)))]⟩) ∧ st.H 88 = some (⟨0, 1, 1, [.int .i64 0, .nils]⟩) ∧ st.H 1560 = some (⟨0, 1, 1, [.int .i64 p, .sl 1432 i 0 (i + 1)]⟩) ∧ st.H 1432 = some (⟨i, 2, 1, (tab (i + 1) (dvd p l c t)).map (V.int .i64)⟩) ∧ 1560 < st.nx) l.length ?_ ?_ 0 _ (by omega) ?_
        · rintro i st hi ⟨he0, he1, he2, he3, he4, he5, he6, he7, he8, he9⟩ next
          have tl := tab_len (i + 1) (dvd p l c t)
          have tr : rdI (tab (i + 1) (dvd p l c t)) i = dvd p l c t i := tab_rd (by omega)
          have ts : tab (i + 1 + 1) (dvd p l c t) = tab (i + 1) (dvd p l c t) ++ [(rdI l i + c * dvd p l c t i) % p] := tab_succ _ _
          have r1 := momB_rd e hi
          have r2 := dvd_range (c := c) hp ht l i
          have hm := mul_small hp hc r2
          have w1 : IntKind.i64.wrap (c * dvd p l c t i) = c * dvd p l c t i := IntWalk.i64_in _ (by omega)
          have w2 : IntKind.i64.wrap (rdI l i + c * dvd p l c t i) = rdI l i + c * dvd p l c t i := IntWalk.i64_in _ (by omega)
          have w3 : IntKind.i64.wrap ((i : Int) + 1) = (i : Int) + 1 := IntWalk.i64_in _ (by omega)
          have c3 : (i + 2) * 8 ≤ 140737488355328 := by omega
          have c4 : (i : Int) < (i : Int) + 1 := by omega
          have hmod := run_mod p (rdI l i + c * dvd p l c t i) hp
          have hpn : ¬ p = 0 := by omega
          have htm : (rdI l i + c * dvd p l c t i).tmod p = (rdI l i + c * dvd p l c t i) % p := Int.tmod_eq_emod_of_nonneg (by omega)
          have n1 := ne_new he9
          have n2 := ne_new (show 1432 < st.nx by omega)
          have n3 := new_ne (show 1432 < st.nx by omega)
          simp [go_sem, -map_replicate, -map_set, -map_append, -map_reverse, -map_take, -map_drop, -map_tail, -any_map, -all_map, -mapM_map, -map_map, slL, szI, ldI, zI, undL, apL, setI, rdI_get, Nat.add_one_le_iff, fillV, zeros1, zeros0, appendD, segV, lvO, goneOf, sliceD, bound, Nat.add_assoc, szL, ldL, setCs0, setCs1, setCs2, setCsA2, setCsA3, ldM, fM0, fM1, szM, zM, plM0, plM1, agM, paM, ldJ, fJ0, fJ1, fJ2, szJ, zJ, plJ0, plJ1, plJ2, agJ, paJ, he0, he1, he2, he3, he4, he5, he6, he7, he8, hi, tl, tr, w1, w2, w3, c3, c4, hpn, htm, n1, n2, n3]
          refine ⟨by kernel_rfl, ?_, next _ ?_⟩
          · obtain ⟨n', hn'⟩ : ∃ n', st.nx = n' + 1561 := ⟨st.nx - 1561, by omega⟩
            rw [hn']
            kernel_rfl
          have n4 := ne_new (show 24 < st.nx by omega)
          have n5 := ne_new (show 88 < st.nx by omega)
          simp [upd, row, -map_replicate, -map_set, -map_append, -map_reverse, -map_take, -map_drop, -map_tail, -map_map, he0, he1, he2, he3, he4, he5, he6, he7, he8, ts, n1, n2, n4, n5]
          repeat' apply And.intro
          all_goals first | omega | (simp; done)
        · rintro st ⟨he0, he1, he2, he3, he4, he5, he6, he7, he8, he9⟩
          have tl := tab_len (l.length + 1) (dvd p l c t)
          simp [go_sem, -map_replicate, -map_set, -map_append, -map_reverse, -map_take, -map_drop, -map_tail, -any_map, -all_map, -mapM_map, -map_map, slL, szI, ldI, zI, undL, apL, setI, rdI_get, Nat.add_one_le_iff, fillV, zeros1, zeros0, appendD, segV, lvO, goneOf, sliceD, bound, Nat.add_assoc, szL, ldL, setCs0, setCs1, setCs2, setCsA2, setCsA3, ldM, fM0, fM1, szM, zM, plM0, plM1, agM, paM, ldJ, fJ0, fJ1, fJ2, szJ, zJ, plJ0, plJ1, plJ2, agJ, paJ, he0, he1, he2, he3, he4, he5, he6, he7, he8]
          simp [mvcgen_simp, -map_replicate, -map_set, -map_append, -map_reverse, -map_take, -map_drop, -map_tail, -any_map, -all_map, -mapM_map, -map_map, Tryz.f10, divM, e, e2, e3, tl, he0, he1, he2, he3, he4, he5, he6, he7, he8, szL, ldL, setCs0, setCs1, setCs2, setCsA2, setCsA3, ldM, fM0, fM1, szM, zM, plM0, plM1, agM, paM, ldJ, fJ0, fJ1, fJ2, szJ, zJ, plJ0, plJ1, plJ2, agJ, paJ, ctM, loadD, viewN]
        · refine ⟨rfl, rfl, rfl, rfl, rfl, rfl, rfl, rfl, rfl, by simp⟩

end Go.Proofs.YtabnganndcmcnaaGreat.Ev
