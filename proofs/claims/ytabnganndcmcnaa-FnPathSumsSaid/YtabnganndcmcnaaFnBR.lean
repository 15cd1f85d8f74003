/- PathTriangle: both texts and the law. Conditions: none. -/
import Derived.Test.YtabnganndcmcnaaFnBP
set_option linter.unusedSimpArgs false
set_option linter.unusedVariables false
namespace Go.Proofs.Ytabnganndcmcnaa.Ev
open Go Go.Proofs
open List (map_replicate map_set map_append map_reverse map_take map_drop map_tail any_map all_map mapM_map map_map)
set_option maxRecDepth 4000
set_option maxHeartbeats 4000000

def rws (R : Nat → List Int) (n : Nat) : List (List Int) := (List.range n).map R
theorem rws_len (R : Nat → List Int) (n : Nat) : (rws R n).length = n := by simp [rws]
theorem rws_succ (R : Nat → List Int) (n : Nat) : (rws R (n + 1)).map UV = (rws R n).map UV ++ [V.uniq 1 (R n).length ((R n).map (V.int .i64))] := by
  unfold rws; rw [List.range_succ, List.map_append, List.map_append]; rfl
theorem apR' : apT Try.prog 71 = some (27, 1, 24) := by kernel_rfl
theorem zR' : zeroT Try.prog 27 = some [.nils] := by kernel_rfl
theorem ctR' : cellTys Try.prog 71 = [some 1] := by kernel_rfl
theorem zerosR' : zerosV 1 [V.nils] = [.nils] := rfl
def triRow (p : Int) (a b : List Int) (i : Nat) : List Int := (fromJ p a b a.length 0 i).take (i + 1)
def triR (p : Int) (a b : List Int) : List (List Int) × Int := if jacB p a b then (rws (triRow p a b) a.length, 0) else ([], 1)
theorem triRow_len {p : Int} {a b : List Int} {i : Nat} (h : i < a.length) : (triRow p a b i).length = i + 1 := by
  simp [triRow, fromJ_len]; omega
theorem triR_len (p : Int) (a b : List Int) : (triR p a b).1.length ≤ 12 ∧ ∀ f, f ∈ (triR p a b).1 → f.length ≤ 12 := by
  unfold triR
  split
  · rename_i h
    have hl := jacB_len h
    refine ⟨by simp [rws_len]; omega, fun f hf => ?_⟩
    simp only [rws, List.mem_map, List.mem_range] at hf
    obtain ⟨i, hi, rfl⟩ := hf
    rw [triRow_len hi]; omega
  · simp
theorem run_specPathTriangle (p : Int) (a b : List Int) (ha : a.length ≤ 1048576) (hb : b.length ≤ 1048576) :
    runv E1 59 [(V.agg [V.int .i64 (p), (V.list (List.length (a)) (List.map (V.int .i64) (a))), (V.list (List.length (b)) (List.map (V.int .i64) (b)))])] = some ⟨true, .tup [.uniq 1 (triR p a b).1.length ((triR p a b).1.map UV), .int .i64 (triR p a b).2], [.agg [.undef, .undef, .undef]]⟩ := by
  have cdk : codeOk Try.f59.ntmps (Try.f59.body.getD .skip) = true := by kernel_rfl
  refine run_of_WLr (fn := Try.f59) rfl Try.func59 rfl ⟨by simp [Try.ntmps59], by simp [wideA, ints], cdk, by simp [Try.f59]⟩ rfl (by simp [rebOk, noId, adoptT, adoptA, adoptL, adoptC, depth]) ?_
  have h1 := up (run_l03Is p a b (by omega) (by omega))
  cases e : jacB p a b with
  | false =>
    rw [e] at h1
    simp [go_sem, -map_replicate, -map_set, -map_append, -map_reverse, -map_take, -map_drop, -map_tail, -any_map, -all_map, -mapM_map, -map_map, slL, szI, ldI, zI, undL, apL, setI, rdI_get, Nat.add_one_le_iff, fillV, zeros1, zeros0, appendD, segV, lvO, goneOf, sliceD, bound, Nat.add_assoc, szL, ldL, setCs0, setCs1, setCs2, setCsA2, setCsA3, ldM, fM0, fM1, szM, zM, plM0, plM1, agM, paM, ldJ, fJ0, fJ1, fJ2, szJ, zJ, plJ0, plJ1, plJ2, agJ, paJ, h1]
    simp [mvcgen_simp, -map_replicate, -map_set, -map_append, -map_reverse, -map_take, -map_drop, -map_tail, -any_map, -all_map, -mapM_map, -map_map, Try.f59, triR, e, ctR']
  | true =>
    rw [e] at h1
    have hp := jacB_prime e
    have hl := jacB_len e
    have hps : triR p a b = (rws (triRow p a b) a.length, 0) := by simp only [triR, e]; rfl
    simp [go_sem, -map_replicate, -map_set, -map_append, -map_reverse, -map_take, -map_drop, -map_tail, -any_map, -all_map, -mapM_map, -map_map, slL, szI, ldI, zI, undL, apL, setI, rdI_get, Nat.add_one_le_iff, fillV, zeros1, zeros0, appendD, segV, lvO, goneOf, sliceD, bound, Nat.add_assoc, szL, ldL, setCs0, setCs1, setCs2, setCsA2, setCsA3, ldM, fM0, fM1, szM, zM, plM0, plM1, agM, paM, ldJ, fJ0, fJ1, fJ2, szJ, zJ, plJ0, plJ1, plJ2, agJ, paJ, h1, slR', undR', zR', zerosR']
    repeat refine ⟨by kernel_rfl, by kernel_rfl, ?_⟩
    rw [WL_loop]
    refine WL_for (keep := [1, 4, 5, 6]) (rs := resM Try.f59) rfl (by kernel_rfl) (fun x => match x with | 0 => mkSt [(1, .ptr 0 0 0), (4, .nils), (5, .int .i64 (a.length : Int)), (6, .int .i64 0)] [some (⟨0, 1, 1, [.int .i64 p, (V.list (List.length (a)) (List.map (V.int .i64) (a))), (V.list (List.length (b)) (List.map (V.int .i64) (b)))]⟩)] (resM Try.f59) | k + 1 => mkSt [(1, .ptr 0 0 0), (4, .sl 1 0 0 (k + 1)), (5, .int .i64 (a.length : Int)), (6, .int .i64 ((k : Int) + 1))] [some (⟨0, 1, 1, [.int .i64 p, (V.list (List.length (a)) (List.map (V.int .i64) (a))), (V.list (List.length (b)) (List.map (V.int .i64) (b)))]⟩), some (⟨0, 2, 1, (rws (triRow p a b) (k + 1)).map UV⟩)] (resM Try.f59)) a.length ?_ ?_ 0 _ (by omega) rfl ?_
    · intro k hk next
      have h2 := up (run_l09Sums p a b k 0 a.length e (by omega) (Nat.le_refl _) (by omega))
      rw [show wkJ p a b a.length ((List.replicate a.length 0).set 0 1) k = fromJ p a b a.length 0 k from rfl] at h2
      have lf := fromJ_len p a b a.length 0 k
      rw [lf] at h2
      have lt := triRow_len (p := p) (b := b) hk
      have em : List.take (k + 1) (List.map (V.int .i64) (fromJ p a b a.length 0 k)) = List.map (V.int .i64) (triRow p a b k) := by rw [triRow, List.map_take]
      have h3 := up (run_l01Own (triRow p a b k) (by omega))
      have w3 : IntKind.i64.wrap ((k : Int) + 1) = (k : Int) + 1 := IntWalk.i64_in _ (by omega)
      have kai : (k : Int) < a.length := by omega
      have kp : (0 : Int) ≤ k := by omega
      have kq : (0 : Int) ≤ (k : Int) + 1 := by omega
      have kt : ((k : Int) + 1).toNat = k + 1 := by omega
      have kl : k + 1 ≤ a.length := by omega
      have c3 : (k + 1) * 24 ≤ 140737488355328 := by omega
      have lR := rws_len (triRow p a b) k
      have sR := rws_succ (triRow p a b) k
      rw [lt] at h3 sR
      generalize triRow p a b k = F at *
      rcases k with _ | k
      · dsimp only at next ⊢
        simp only [Nat.zero_add, Int.zero_add, Int.cast_ofNat_Int, Int.natCast_add, Nat.add_assoc, Nat.reduceAdd] at *
        try rw [show rws (triRow p a b) 0 = [] from rfl] at sR lR
        simp [go_sem, -map_replicate, -map_set, -map_append, -map_reverse, -map_take, -map_drop, -map_tail, -any_map, -all_map, -mapM_map, -map_map, slL, szI, ldI, zI, undL, apL, setI, rdI_get, Nat.add_one_le_iff, fillV, zeros1, zeros0, appendD, segV, lvO, goneOf, sliceD, bound, Nat.add_assoc, szL, ldL, setCs0, setCs1, setCs2, setCsA2, setCsA3, ldM, fM0, fM1, szM, zM, plM0, plM1, agM, paM, ldJ, fJ0, fJ1, fJ2, szJ, zJ, plJ0, plJ1, plJ2, agJ, paJ, hk, kai, kp, kq, kt, kl, w3, h2, h3, lf, em, lt, c3, slR', apR', undR', zR', zerosR', lR]
        repeat refine ⟨by kernel_rfl, by kernel_rfl, ?_⟩
        refine next _ rfl ?_
        (refine canon_mk ?_; simp [method_specs_simp, ordIds_app, ordRen_app, ordIds_app2, ordRen_app2, -map_replicate, -map_set, -map_append, -map_reverse, -map_take, -map_drop, -map_tail, -map_map, sR, ordIds_UV, ordRen_UV, ordIds_UVapp, ordRen_UVapp])
      · dsimp only at next ⊢
        simp only [Nat.zero_add, Int.zero_add, Int.cast_ofNat_Int, Int.natCast_add, Nat.add_assoc, Nat.reduceAdd] at *
        try rw [show rws (triRow p a b) 0 = [] from rfl] at sR lR
        simp [go_sem, -map_replicate, -map_set, -map_append, -map_reverse, -map_take, -map_drop, -map_tail, -any_map, -all_map, -mapM_map, -map_map, slL, szI, ldI, zI, undL, apL, setI, rdI_get, Nat.add_one_le_iff, fillV, zeros1, zeros0, appendD, segV, lvO, goneOf, sliceD, bound, Nat.add_assoc, szL, ldL, setCs0, setCs1, setCs2, setCsA2, setCsA3, ldM, fM0, fM1, szM, zM, plM0, plM1, agM, paM, ldJ, fJ0, fJ1, fJ2, szJ, zJ, plJ0, plJ1, plJ2, agJ, paJ, hk, kai, kp, kq, kt, kl, w3, h2, h3, lf, em, lt, c3, slR', apR', undR', zR', zerosR', lR]
        repeat refine ⟨by kernel_rfl, by kernel_rfl, ?_⟩
        refine next _ rfl ?_
        (refine canon_mk ?_; simp [method_specs_simp, ordIds_app, ordRen_app, ordIds_app2, ordRen_app2, -map_replicate, -map_set, -map_append, -map_reverse, -map_take, -map_drop, -map_tail, -map_map, sR, ordIds_UV, ordRen_UV, ordIds_UVapp, ordRen_UVapp])
    · rcases hn : a.length with _ | n
      · omega
      · have lR := rws_len (triRow p a b) (n + 1)
        rw [hn] at hps
        dsimp only
        simp [go_sem, -map_replicate, -map_set, -map_append, -map_reverse, -map_take, -map_drop, -map_tail, -any_map, -all_map, -mapM_map, -map_map, slL, szI, ldI, zI, undL, apL, setI, rdI_get, Nat.add_one_le_iff, fillV, zeros1, zeros0, appendD, segV, lvO, goneOf, sliceD, bound, Nat.add_assoc, szL, ldL, setCs0, setCs1, setCs2, setCsA2, setCsA3, ldM, fM0, fM1, szM, zM, plM0, plM1, agM, paM, ldJ, fJ0, fJ1, fJ2, szJ, zJ, plJ0, plJ1, plJ2, agJ, paJ]
        simp [mvcgen_simp, -map_replicate, -map_set, -map_append, -map_reverse, -map_take, -map_drop, -map_tail, -any_map, -all_map, -mapM_map, -map_map, Try.f59, hps, ctR', lR, mapM_expN_UV, flatMap_eidN_UV, all_treeN_UV]
    · (refine canon_mk ?_; simp [method_specs_simp, ordIds_app, ordRen_app, ordIds_app2, ordRen_app2, -map_replicate, -map_set, -map_append, -map_reverse, -map_take, -map_drop, -map_tail, -map_map])
theorem run_implPathTriangle (p : Int) (a b : List Int) (ha : a.length ≤ 1048576) (hb : b.length ≤ 1048576) :
    runv E1 58 [(V.agg [V.int .i64 (p), (V.list (List.length (a)) (List.map (V.int .i64) (a))), (V.list (List.length (b)) (List.map (V.int .i64) (b)))])] = some ⟨true, .tup [.uniq 1 (triR p a b).1.length ((triR p a b).1.map UV), .int .i64 (triR p a b).2], [.agg [.undef, .undef, .undef]]⟩ := by
  have cdk : codeOk Try.f58.ntmps (Try.f58.body.getD .skip) = true := by kernel_rfl
  refine run_of_WLr (fn := Try.f58) rfl Try.func58 rfl ⟨by simp [Try.ntmps58], by simp [wideA, ints], cdk, by simp [Try.f58]⟩ rfl (by simp [rebOk, noId, adoptT, adoptA, adoptL, adoptC, depth]) ?_
  have h1 := up (run_jacobiCode p a b true (by omega) (by omega))
  have g4 := up (run_Jsize p a b)
  cases e : jacB p a b with
  | false =>
    rw [e] at h1
    simp [go_sem, -map_replicate, -map_set, -map_append, -map_reverse, -map_take, -map_drop, -map_tail, -any_map, -all_map, -mapM_map, -map_map, slL, szI, ldI, zI, undL, apL, setI, rdI_get, Nat.add_one_le_iff, fillV, zeros1, zeros0, appendD, segV, lvO, goneOf, sliceD, bound, Nat.add_assoc, szL, ldL, setCs0, setCs1, setCs2, setCsA2, setCsA3, ldM, fM0, fM1, szM, zM, plM0, plM1, agM, paM, ldJ, fJ0, fJ1, fJ2, szJ, zJ, plJ0, plJ1, plJ2, agJ, paJ, h1]
    simp [mvcgen_simp, -map_replicate, -map_set, -map_append, -map_reverse, -map_take, -map_drop, -map_tail, -any_map, -all_map, -mapM_map, -map_map, Try.f58, triR, e, ctR']
  | true =>
    rw [e] at h1
    have hp := jacB_prime e
    have hl := jacB_len e
    have hps : triR p a b = (rws (triRow p a b) a.length, 0) := by simp only [triR, e]; rfl
    simp [go_sem, -map_replicate, -map_set, -map_append, -map_reverse, -map_take, -map_drop, -map_tail, -any_map, -all_map, -mapM_map, -map_map, slL, szI, ldI, zI, undL, apL, setI, rdI_get, Nat.add_one_le_iff, fillV, zeros1, zeros0, appendD, segV, lvO, goneOf, sliceD, bound, Nat.add_assoc, szL, ldL, setCs0, setCs1, setCs2, setCsA2, setCsA3, ldM, fM0, fM1, szM, zM, plM0, plM1, agM, paM, ldJ, fJ0, fJ1, fJ2, szJ, zJ, plJ0, plJ1, plJ2, agJ, paJ, h1, g4]
    repeat refine ⟨by kernel_rfl, by kernel_rfl, ?_⟩
    rw [WL_loop]
    refine WL_for (keep := [1, 5, 13, 14]) (rs := resM Try.f58) rfl (by kernel_rfl) (fun x => match x with | 0 => mkSt [(1, .ptr 0 0 0), (5, .nils), (13, .int .i64 (a.length : Int)), (14, .int .i64 0)] [some (⟨0, 1, 1, [.int .i64 p, (V.list (List.length (a)) (List.map (V.int .i64) (a))), (V.list (List.length (b)) (List.map (V.int .i64) (b)))]⟩)] (resM Try.f58) | k + 1 => mkSt [(1, .ptr 0 0 0), (5, .sl 1 0 0 (k + 1)), (13, .int .i64 (a.length : Int)), (14, .int .i64 ((k : Int) + 1))] [some (⟨0, 1, 1, [.int .i64 p, (V.list (List.length (a)) (List.map (V.int .i64) (a))), (V.list (List.length (b)) (List.map (V.int .i64) (b)))]⟩), some (⟨0, 2, 1, (rws (triRow p a b) (k + 1)).map UV⟩)] (resM Try.f58)) a.length ?_ ?_ 0 _ (by omega) rfl ?_
    · intro k hk next
      have h2 := up (run_from p a b k 0 a.length e (by omega) (Nat.le_refl _) (by omega))
      have lf := fromJ_len p a b a.length 0 k
      have lt := triRow_len (p := p) (b := b) hk
      have em : List.take (k + 1) (List.map (V.int .i64) (fromJ p a b a.length 0 k)) = List.map (V.int .i64) (triRow p a b k) := by rw [triRow, List.map_take]
      have h3 := up (run_Clone (triRow p a b k) (by omega) (by omega))
      have w3 : IntKind.i64.wrap ((k : Int) + 1) = (k : Int) + 1 := IntWalk.i64_in _ (by omega)
      have kai : (k : Int) < a.length := by omega
      have kp : (0 : Int) ≤ k := by omega
      have kq : (0 : Int) ≤ (k : Int) + 1 := by omega
      have kt : ((k : Int) + 1).toNat = k + 1 := by omega
      have kl : k + 1 ≤ a.length := by omega
      have c3 : (k + 1) * 24 ≤ 140737488355328 := by omega
      have lR := rws_len (triRow p a b) k
      have sR := rws_succ (triRow p a b) k
      rw [lt] at h3 sR
      generalize triRow p a b k = F at *
      rcases k with _ | k
      · dsimp only at next ⊢
        simp only [Nat.zero_add, Int.zero_add, Int.cast_ofNat_Int, Int.natCast_add, Nat.add_assoc, Nat.reduceAdd] at *
        try rw [show rws (triRow p a b) 0 = [] from rfl] at sR lR
        simp [go_sem, -map_replicate, -map_set, -map_append, -map_reverse, -map_take, -map_drop, -map_tail, -any_map, -all_map, -mapM_map, -map_map, slL, szI, ldI, zI, undL, apL, setI, rdI_get, Nat.add_one_le_iff, fillV, zeros1, zeros0, appendD, segV, lvO, goneOf, sliceD, bound, Nat.add_assoc, szL, ldL, setCs0, setCs1, setCs2, setCsA2, setCsA3, ldM, fM0, fM1, szM, zM, plM0, plM1, agM, paM, ldJ, fJ0, fJ1, fJ2, szJ, zJ, plJ0, plJ1, plJ2, agJ, paJ, hk, kai, kp, kq, kt, kl, w3, g4, h2, h3, lf, em, lt, c3, slR', apR', undR', zR', zerosR', lR]
        repeat refine ⟨by kernel_rfl, by kernel_rfl, ?_⟩
        refine next _ rfl ?_
        (refine canon_mk ?_; simp [method_specs_simp, ordIds_app, ordRen_app, ordIds_app2, ordRen_app2, -map_replicate, -map_set, -map_append, -map_reverse, -map_take, -map_drop, -map_tail, -map_map, sR, ordIds_UV, ordRen_UV, ordIds_UVapp, ordRen_UVapp])
      · dsimp only at next ⊢
        simp only [Nat.zero_add, Int.zero_add, Int.cast_ofNat_Int, Int.natCast_add, Nat.add_assoc, Nat.reduceAdd] at *
        try rw [show rws (triRow p a b) 0 = [] from rfl] at sR lR
        simp [go_sem, -map_replicate, -map_set, -map_append, -map_reverse, -map_take, -map_drop, -map_tail, -any_map, -all_map, -mapM_map, -map_map, slL, szI, ldI, zI, undL, apL, setI, rdI_get, Nat.add_one_le_iff, fillV, zeros1, zeros0, appendD, segV, lvO, goneOf, sliceD, bound, Nat.add_assoc, szL, ldL, setCs0, setCs1, setCs2, setCsA2, setCsA3, ldM, fM0, fM1, szM, zM, plM0, plM1, agM, paM, ldJ, fJ0, fJ1, fJ2, szJ, zJ, plJ0, plJ1, plJ2, agJ, paJ, hk, kai, kp, kq, kt, kl, w3, g4, h2, h3, lf, em, lt, c3, slR', apR', undR', zR', zerosR', lR]
        repeat refine ⟨by kernel_rfl, by kernel_rfl, ?_⟩
        refine next _ rfl ?_
        (refine canon_mk ?_; simp [method_specs_simp, ordIds_app, ordRen_app, ordIds_app2, ordRen_app2, -map_replicate, -map_set, -map_append, -map_reverse, -map_take, -map_drop, -map_tail, -map_map, sR, ordIds_UV, ordRen_UV, ordIds_UVapp, ordRen_UVapp])
    · rcases hn : a.length with _ | n
      · omega
      · have lR := rws_len (triRow p a b) (n + 1)
        rw [hn] at hps
        dsimp only
        simp [go_sem, -map_replicate, -map_set, -map_append, -map_reverse, -map_take, -map_drop, -map_tail, -any_map, -all_map, -mapM_map, -map_map, slL, szI, ldI, zI, undL, apL, setI, rdI_get, Nat.add_one_le_iff, fillV, zeros1, zeros0, appendD, segV, lvO, goneOf, sliceD, bound, Nat.add_assoc, szL, ldL, setCs0, setCs1, setCs2, setCsA2, setCsA3, ldM, fM0, fM1, szM, zM, plM0, plM1, agM, paM, ldJ, fJ0, fJ1, fJ2, szJ, zJ, plJ0, plJ1, plJ2, agJ, paJ]
        simp [mvcgen_simp, -map_replicate, -map_set, -map_append, -map_reverse, -map_take, -map_drop, -map_tail, -any_map, -all_map, -mapM_map, -map_map, Try.f58, hps, ctR', lR, mapM_expN_UV, flatMap_eidN_UV, all_treeN_UV]
    · (refine canon_mk ?_; simp [method_specs_simp, ordIds_app, ordRen_app, ordIds_app2, ordRen_app2, -map_replicate, -map_set, -map_append, -map_reverse, -map_take, -map_drop, -map_tail, -map_map])

end Go.Proofs.Ytabnganndcmcnaa.Ev
