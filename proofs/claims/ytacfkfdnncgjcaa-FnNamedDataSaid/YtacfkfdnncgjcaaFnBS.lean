/- MomentsOfJacobi: both texts and the law. Conditions: none. -/
import Derived.Test.YtacfkfdnncgjcaaFnBO
set_option linter.unusedSimpArgs false
set_option linter.unusedVariables false
namespace Go.Proofs.Ytacfkfdnncgjcaa.Ev
open Go Go.Proofs
open List (map_replicate map_set map_append map_reverse map_take map_drop map_tail any_map all_map mapM_map map_map)
set_option maxRecDepth 4000
set_option maxHeartbeats 4000000
attribute [local bitvec_to_nat] slL szI ldI zI undL apL setI rdI_get Nat.add_one_le_iff fillV zeros1 zeros0 appendD segV lvO goneOf sliceD bound Nat.add_assoc szL ldL setCs0 setCs1 setCs2 setCsA2 setCsA3 ldM fM0 fM1 szM zM plM0 plM1 agM paM ldJ fJ0 fJ1 fJ2 szJ zJ plJ0 plJ1 plJ2 agJ paJ

/-! ### The matrix of data, and what it makes of a column -/
def mE (a b : List Int) (i k : Nat) : Int := if k = i then rdI a i else if k = i + 1 then 1 else if k + 1 = i then rdI b i else 0
def mRow (a b : List Int) (i : Nat) : List Int := tab a.length (mE a b i)
/-- The sum of the first k products of a row. -/
def mS (a b v : List Int) (i k : Nat) : Int := (if i < k then rdI a i * rdI v i else 0) + (if i + 1 < k then rdI v (i + 1) else 0) + (if 0 < i ∧ i ≤ k then rdI b i * rdI v (i - 1) else 0)
def mV (p : Int) (a b v : List Int) : List Int := tab a.length fun i => mS a b v i a.length % p
def mT (p : Int) (a b : List Int) : Nat → List Int
  | 0 => (List.replicate a.length 0).set 0 1
  | t + 1 => mV p a b (mT p a b t)
theorem mT_len (p : Int) (a b : List Int) : ∀ t, (mT p a b t).length = a.length
  | 0 => by simp [mT]
  | t + 1 => tab_len _ _
theorem mT_fine {p : Int} (hp : 2 ≤ p ∧ p ≤ 10007) (a b : List Int) : ∀ t, fine p (mT p a b t)
  | 0 => start_fine hp _ _
  | t + 1 => fun i => by
    by_cases h : i < a.length
    · rw [mT, mV, tab_rd h]; exact mod_small hp _
    · rw [rdI_out (by rw [mT_len]; omega)]; omega
theorem mS_succ (a b v : List Int) (i k : Nat) : mS a b v i (k + 1) = mS a b v i k + mE a b i k * rdI v k := by
  unfold mS mE
  by_cases c1 : k = i
  · subst c1
    simp only [if_true, show k < k + 1 by omega, show ¬ k < k by omega, show ¬ k + 1 < k + 1 by omega, show ¬ k + 1 < k by omega, if_false]
    have h : (0 < k ∧ k ≤ k + 1) ↔ (0 < k ∧ k ≤ k) := by omega
    simp only [h]; omega
  · by_cases c2 : k = i + 1
    · subst c2
      have h : (0 < i ∧ i ≤ i + 1 + 1) ↔ (0 < i ∧ i ≤ i + 1) := by omega
      simp only [h, show ¬ i + 1 = i by omega, if_false, if_true, show i < i + 1 + 1 by omega, show i < i + 1 by omega, show i + 1 < i + 1 + 1 by omega, show ¬ i + 1 < i + 1 by omega]
      omega
    · have h1 : (i < k + 1) ↔ (i < k) := by omega
      have h2 : (i + 1 < k + 1) ↔ (i + 1 < k) := by omega
      by_cases c3 : k + 1 = i
      · subst c3
        simp only [c1, c2, if_false, if_true, h1, h2, show (0 < k + 1 ∧ k + 1 ≤ k + 1) = True by simp, show (0 < k + 1 ∧ k + 1 ≤ k) = False by simp, Nat.add_sub_cancel]
        omega
      · have h3 : (0 < i ∧ i ≤ k + 1) ↔ (0 < i ∧ i ≤ k) := by omega
        simp only [c1, c2, c3, if_false, h1, h2, h3]; omega
def mAcc (p : Int) (a b v : List Int) (i : Nat) : Nat → Int
  | 0 => 0
  | k + 1 => (mAcc p a b v i k + mE a b i k * rdI v k) % p
theorem mAcc_eq (p : Int) (a b v : List Int) (i : Nat) : ∀ k, mAcc p a b v i k = mS a b v i k % p
  | 0 => by
    have : mS a b v i 0 = 0 := by
      unfold mS; rw [if_neg (by omega), if_neg (by omega), if_neg (by omega)]; rfl
    rw [mAcc, this]; simp
  | k + 1 => by rw [mAcc, mAcc_eq p a b v i k, mS_succ, Int.emod_add_emod]
theorem mE_range {p : Int} {a b : List Int} (h : jacB p a b = true) {i : Nat} (hi : i < a.length) (k : Nat) : 0 ≤ mE a b i k ∧ mE a b i k < p := by
  have hp := jacB_prime h
  have ra := jacB_a h hi
  have rb := jacB_b h hi
  unfold mE; (repeat' split) <;> omega
theorem run_matrix (p : Int) (a b : List Int) (h : jacB p a b = true) :
    runv E1 120 [(V.agg [V.int .i64 (p), (V.list (List.length (a)) (List.map (V.int .i64) (a))), (V.list (List.length (b)) (List.map (V.int .i64) (b)))])] = some ⟨true, .uniq 1 a.length ((rws (mRow a b) a.length).map UV), [.agg [.undef, .undef, .undef]]⟩ := by
  have cdk : codeOk Try.f120.ntmps (Try.f120.body.getD .skip) = true := by kernel_rfl
  refine run_of_WLr (fn := Try.f120) rfl Try.func120 rfl ⟨by simp [Try.ntmps120], by simp [wideA, ints], cdk, by simp [Try.f120]⟩ rfl (by simp [rebOk, noId, adoptT, adoptA, adoptL, adoptC, depth]) ?_
  have hp := jacB_prime h
  have hl := jacB_len h
  simp [go_sem, -map_replicate, -map_set, -map_append, -map_reverse, -map_take, -map_drop, -map_tail, -any_map, -all_map, -mapM_map, -map_map, bitvec_to_nat]
  rw [WL_loop]
  refine WL_for (keep := [1, 3, 8, 9, 10]) (rs := resM Try.f120) rfl (by kernel_rfl) (fun x => match x with | 0 => mkSt [(1, .ptr 0 0 0), (3, .nils), (8, (V.list (List.length (a)) (List.map (V.int .i64) (a)))), (9, .int .i64 (a.length : Int)), (10, .int .i64 0)] [some (⟨0, 1, 1, [.int .i64 p, (V.list (List.length (a)) (List.map (V.int .i64) (a))), (V.list (List.length (b)) (List.map (V.int .i64) (b)))]⟩)] (resM Try.f120) | k + 1 => mkSt [(1, .ptr 0 0 0), (3, .sl 1 0 0 (k + 1)), (8, (V.list (List.length (a)) (List.map (V.int .i64) (a)))), (9, .int .i64 (a.length : Int)), (10, .int .i64 ((k : Int) + 1))] [some (⟨0, 1, 1, [.int .i64 p, (V.list (List.length (a)) (List.map (V.int .i64) (a))), (V.list (List.length (b)) (List.map (V.int .i64) (b)))]⟩), some (⟨0, 2, 1, (rws (mRow a b) (k + 1)).map UV⟩)] (resM Try.f120)) a.length ?_ ?_ 0 _ (by omega) rfl ?_
  · intro k hk next
    have c1 : a.length * 8 ≤ 140737488355328 := by omega
    have c2 : (a.length : Int) ≤ 9223372036854775807 := by omega
    have w3 : IntKind.i64.wrap ((k : Int) + 1) = (k : Int) + 1 := IntWalk.i64_in _ (by omega)
    have kai : (k : Int) < a.length := by omega
    have kbi : (k : Int) < b.length := by omega
    have kb : k < b.length := by omega
    have kp : (0 : Int) ≤ k := by omega
    have kq : (0 : Int) ≤ (k : Int) + 1 := by omega
    have kn : k < a.length := by omega
    have kni : (k : Int) < a.length := by omega
    have kt : ((k : Int) + 1).toNat = k + 1 := by omega
    have c3 : (k + 1) * 24 ≤ 140737488355328 := by omega
    have lR := rws_len (mRow a b) k
    have sR := rws_succ (mRow a b) k
    have lm : (mRow a b k).length = a.length := by rw [mRow, tab_len]
    rw [lm] at sR
    have l0 : ((List.replicate a.length (0 : Int)).set k (rdI a k)).length = a.length := by simp
    have l1 : (((List.replicate a.length (0 : Int)).set k (rdI a k)).set (k + 1) 1).length = a.length := by simp
    have eM : mRow a b k = (if 0 < k then ((if k + 1 < a.length then ((List.replicate a.length (0 : Int)).set k (rdI a k)).set (k + 1) 1 else (List.replicate a.length (0 : Int)).set k (rdI a k))).set (k - 1) (rdI b k) else (if k + 1 < a.length then ((List.replicate a.length (0 : Int)).set k (rdI a k)).set (k + 1) 1 else (List.replicate a.length (0 : Int)).set k (rdI a k))) := by
      unfold mRow
      rw [tab_replicate]
      symm
      by_cases q1 : k + 1 < a.length
      · by_cases q2 : 0 < k
        · rw [if_pos q2, if_pos q1, tab_set, tab_set, tab_set]
          apply tab_ext; intro j hj; unfold mE
          by_cases z1 : k - 1 = j <;> by_cases z2 : k + 1 = j <;> by_cases z3 : k = j <;> first | omega | simp only [z1, z2, z3, if_true, if_false] | skip
          all_goals (repeat' split) <;> first | rfl | omega
        · rw [if_neg q2, if_pos q1, tab_set, tab_set]
          apply tab_ext; intro j hj; unfold mE
          (repeat' split) <;> first | rfl | omega
      · by_cases q2 : 0 < k
        · rw [if_pos q2, if_neg q1, tab_set, tab_set]
          apply tab_ext; intro j hj; unfold mE
          (repeat' split) <;> first | rfl | omega
        · rw [if_neg q2, if_neg q1, tab_set]
          apply tab_ext; intro j hj; unfold mE
          (repeat' split) <;> first | rfl | omega
    generalize mRow a b k = F at *
    rcases k with _ | k
    · dsimp only at next ⊢
      simp only [Nat.zero_add, Int.zero_add, Int.cast_ofNat_Int, Nat.lt_irrefl, if_false] at *
      rw [show rws (mRow a b) 0 = [] from rfl] at sR lR
      by_cases q1 : 1 < a.length
      · rw [if_pos q1] at eM
        have q1i : (1 : Int) < a.length := by omega
        simp [go_sem, -map_replicate, -map_set, -map_append, -map_reverse, -map_take, -map_drop, -map_tail, -any_map, -all_map, -mapM_map, -map_map, bitvec_to_nat, hk, kai, kbi, kb, kp, kq, kn, kni, w3, c1, c2, c3, q1, q1i, l0, l1, zerosI, slR', apR', undR', zR', zerosR', lR]
        repeat refine ⟨by kernel_rfl, by kernel_rfl, ?_⟩
        refine next _ rfl ?_
        (refine canon_mk ?_; simp [method_specs_simp, ordIds_app, ordRen_app, ordIds_app2, ordRen_app2, -map_replicate, -map_set, -map_append, -map_reverse, -map_take, -map_drop, -map_tail, -map_map, sR, ← eM, lm, ordIds_UV, ordRen_UV, ordIds_UVapp, ordRen_UVapp])
      · rw [if_neg q1] at eM
        have q1i : ¬ (1 : Int) < a.length := by omega
        simp [go_sem, -map_replicate, -map_set, -map_append, -map_reverse, -map_take, -map_drop, -map_tail, -any_map, -all_map, -mapM_map, -map_map, bitvec_to_nat, hk, kai, kbi, kb, kp, kq, kn, kni, w3, c1, c2, c3, q1, q1i, l0, l1, zerosI, slR', apR', undR', zR', zerosR', lR]
        repeat refine ⟨by kernel_rfl, by kernel_rfl, ?_⟩
        refine next _ rfl ?_
        (refine canon_mk ?_; simp [method_specs_simp, ordIds_app, ordRen_app, ordIds_app2, ordRen_app2, -map_replicate, -map_set, -map_append, -map_reverse, -map_take, -map_drop, -map_tail, -map_map, sR, ← eM, lm, ordIds_UV, ordRen_UV, ordIds_UVapp, ordRen_UVapp])
    · dsimp only at next ⊢
      have kt2 : ((k : Int) + 1 + 1).toNat = k + 2 := by omega
      have kp1 : (0 : Int) < (k : Int) + 1 := by omega
      have w6 : IntKind.i64.wrap (k : Int) = (k : Int) := IntWalk.i64_in _ (by omega)
      have k0n : k < a.length := by omega
      have k0ni : (k : Int) < a.length := by omega
      simp only [Int.natCast_add, Int.cast_ofNat_Int, Nat.add_assoc, Nat.reduceAdd, Nat.succ_pos, if_true, Nat.add_sub_cancel] at *
      by_cases q1 : k + 2 < a.length
      · rw [if_pos q1] at eM
        have q1i : (k : Int) + 1 + 1 < a.length := by omega
        simp [go_sem, -map_replicate, -map_set, -map_append, -map_reverse, -map_take, -map_drop, -map_tail, -any_map, -all_map, -mapM_map, -map_map, bitvec_to_nat, hk, kai, kbi, kb, kp, kp1, kq, kn, kni, kt, kt2, w3, w6, k0n, k0ni, c1, c2, c3, q1, q1i, l0, l1, zerosI, slR', apR', undR', zR', zerosR', lR]
        repeat refine ⟨by kernel_rfl, by kernel_rfl, ?_⟩
        refine next _ rfl ?_
        (refine canon_mk ?_; simp [method_specs_simp, ordIds_app, ordRen_app, ordIds_app2, ordRen_app2, -map_replicate, -map_set, -map_append, -map_reverse, -map_take, -map_drop, -map_tail, -map_map, sR, ← eM, lm, ordIds_UV, ordRen_UV, ordIds_UVapp, ordRen_UVapp])
      · rw [if_neg q1] at eM
        have q1i : ¬ (k : Int) + 1 + 1 < a.length := by omega
        simp [go_sem, -map_replicate, -map_set, -map_append, -map_reverse, -map_take, -map_drop, -map_tail, -any_map, -all_map, -mapM_map, -map_map, bitvec_to_nat, hk, kai, kbi, kb, kp, kp1, kq, kn, kni, kt, kt2, w3, w6, k0n, k0ni, c1, c2, c3, q1, q1i, l0, l1, zerosI, slR', apR', undR', zR', zerosR', lR]
        repeat refine ⟨by kernel_rfl, by kernel_rfl, ?_⟩
        refine next _ rfl ?_
        (refine canon_mk ?_; simp [method_specs_simp, ordIds_app, ordRen_app, ordIds_app2, ordRen_app2, -map_replicate, -map_set, -map_append, -map_reverse, -map_take, -map_drop, -map_tail, -map_map, sR, ← eM, lm, ordIds_UV, ordRen_UV, ordIds_UVapp, ordRen_UVapp])
  · rcases hn : a.length with _ | n
    · omega
    · have lR := rws_len (mRow a b) (n + 1)
      have c9 : ¬ (n : Int) + 1 < a.length := by omega
      dsimp only
      simp [go_sem, -map_replicate, -map_set, -map_append, -map_reverse, -map_take, -map_drop, -map_tail, -any_map, -all_map, -mapM_map, -map_map, bitvec_to_nat, c9]
      simp [mvcgen_simp, -map_replicate, -map_set, -map_append, -map_reverse, -map_take, -map_drop, -map_tail, -any_map, -all_map, -mapM_map, -map_map, Try.f120, ctR', lR, mapM_expN_UV, flatMap_eidN_UV, all_treeN_UV]
  · (refine canon_mk ?_; simp [method_specs_simp, ordIds_app, ordRen_app, ordIds_app2, ordRen_app2, -map_replicate, -map_set, -map_append, -map_reverse, -map_take, -map_drop, -map_tail, -map_map])
theorem run_apply (p : Int) (a b v : List Int) (h : jacB p a b = true) (hf : fine p v) (hv : v.length = a.length) :
    runv E1 121 [.int .i64 p, .list a.length ((rws (mRow a b) a.length).map LV), .int .i64 0, .list a.length (v.map (V.int .i64))] = some ⟨true, .uniq 1 a.length ((mV p a b v).map (V.int .i64)), [.undef, .undef, .undef, .undef]⟩ := by
  have cdk : codeOk Try.f121.ntmps (Try.f121.body.getD .skip) = true := by kernel_rfl
  refine run_of_WLr (fn := Try.f121) rfl Try.func121 rfl ⟨by simp [Try.ntmps121], by simp [wideA, ints], cdk, by simp [Try.f121]⟩ rfl (by simp [rebOk, noId, adoptT, adoptA, adoptL, adoptC, depth]) ?_
  have hp := jacB_prime h
  have hl := jacB_len h
  obtain ⟨n, hn⟩ : ∃ n, n = a.length := ⟨_, rfl⟩
  have c1 : n * 8 ≤ 140737488355328 := by omega
  have c2 : (n : Int) ≤ 9223372036854775807 := by omega
  simp only [← hn]
  simp [go_sem, -map_replicate, -map_set, -map_append, -map_reverse, -map_take, -map_drop, -map_tail, -any_map, -all_map, -mapM_map, -map_map, bitvec_to_nat, c1, c2, zerosI]
  rw [WL_loop]
  refine WL_for (keep := [0, 1, 2, 3, 9, 17, 18]) (rs := resM Try.f121) rfl (by kernel_rfl) (fun i => mkSt [(0, .int .i64 p), (1, .list n ((rws (mRow a b) n).map LV)), (2, .int .i64 0), (3, .list n (v.map (V.int .i64))), (9, .sl 0 0 0 n), (17, .int .i64 (n : Int)), (18, .int .i64 (i : Int))] [some (⟨0, 2, 1, (inpl n i (fun i => mS a b v i n % p) (fun _ => 0)).map (V.int .i64)⟩)] (resM Try.f121)) n ?_ ?_ 0 _ (by omega) rfl ?_
  · intro i hi next
    have w3 : IntKind.i64.wrap ((i : Int) + 1) = (i : Int) + 1 := IntWalk.i64_in _ (by omega)
    have w0 : IntKind.i64.wrap (i : Int) = (i : Int) := IntWalk.i64_in _ (by omega)
    have lA := inpl_len n i (fun i => mS a b v i n % p) (fun _ => 0)
    have rA := inpl_rd (i := i) (f := fun i => mS a b v i n % p) (g := fun _ => 0) (show i < n from hi)
    have sA : (inpl n i (fun i => mS a b v i n % p) (fun _ => 0)).set i (mS a b v i n % p) = _ := inpl_set n i (fun i => mS a b v i n % p) (fun _ => 0)
    generalize inpl n i (fun i => mS a b v i n % p) (fun _ => 0) = A at *
    have s0 : A = A.set i (mAcc p a b v i 0) := by
      rw [mAcc]
      apply rdI_eq (by simp)
      intro j hj
      rw [rdI_set hj]; split
      · rename_i e; rw [← e]; exact rA
      · rfl
    have ii : (i : Int) < n := by omega
    simp [go_sem, -map_replicate, -map_set, -map_append, -map_reverse, -map_take, -map_drop, -map_tail, -any_map, -all_map, -mapM_map, -map_map, bitvec_to_nat, hi, ii]
    rw [WL_loop]
    refine WL_for (keep := [0, 1, 2, 3, 9, 10, 17, 18, 21, 22, 23]) (rs := resM Try.f121) rfl (by kernel_rfl) (fun k => mkSt [(0, .int .i64 p), (1, .list n ((rws (mRow a b) n).map LV)), (2, .int .i64 0), (3, .list n (v.map (V.int .i64))), (9, .sl 0 0 0 n), (10, .int .i64 (i : Int)), (17, .int .i64 (n : Int)), (18, .int .i64 (i : Int)), (21, .list n (v.map (V.int .i64))), (22, .int .i64 (n : Int)), (23, .int .i64 (k : Int))] [some (⟨0, 2, 1, (A.set i (mAcc p a b v i k)).map (V.int .i64)⟩)] (resM Try.f121)) n ?_ ?_ 0 _ (by omega) rfl ?_
    · intro k hk next'
      have v3 : IntKind.i64.wrap ((k : Int) + 1) = (k : Int) + 1 := IntWalk.i64_in _ (by omega)
      have v0 : IntKind.i64.wrap (k : Int) = (k : Int) := IntWalk.i64_in _ (by omega)
      have re := mE_range h (show i < a.length by omega) k
      have rv := hf k
      have pm := mul_small hp re rv
      have eA := mAcc_eq p a b v i k
      have ra := mod_small hp (mS a b v i k)
      rw [← eA] at ra
      have d1 := up (run_mod p (mAcc p a b v i k + mE a b i k * rdI v k) hp)
      rw [show (mAcc p a b v i k + mE a b i k * rdI v k) % p = mAcc p a b v i (k + 1) from rfl] at d1
      have u1 : IntKind.i64.wrap (mE a b i k * rdI v k) = mE a b i k * rdI v k := IntWalk.i64_in _ (by omega)
      have u2 : IntKind.i64.wrap (mAcc p a b v i k + mE a b i k * rdI v k) = mAcc p a b v i k + mE a b i k * rdI v k := IntWalk.i64_in _ (by omega)
      have kk : (k : Int) < n := by omega
      have kv : k < v.length := by omega
      have lAk : (A.set i (mAcc p a b v i k)).length = n := by simp [lA]
      have rAk : rdI (A.set i (mAcc p a b v i k)) i = mAcc p a b v i k := by rw [rdI_set (by omega), if_pos rfl]
      have sAk : (A.set i (mAcc p a b v i k)).set i (mAcc p a b v i (k + 1)) = A.set i (mAcc p a b v i (k + 1)) := by rw [List.set_set]
      have lR := rws_len (mRow a b) n
      have lm : ∀ i, (mRow a b i).length = n := fun i => by rw [mRow, tab_len, hn]
      have hg : ∀ h : i < (rws (mRow a b) n).length, (rws (mRow a b) n)[i] = mRow a b i := fun h => by simp [rws]
      have hr : rdI (mRow a b i) k = mE a b i k := by rw [mRow, tab_rd (by omega)]
      generalize hAk : A.set i (mAcc p a b v i k) = Ak at *
      simp [go_sem, -map_replicate, -map_set, -map_append, -map_reverse, -map_take, -map_drop, -map_tail, -any_map, -all_map, -mapM_map, -map_map, bitvec_to_nat, hi, ii, hk, kk, kv, w0, v0, v3, d1, u1, u2, lAk, rAk, sAk, lR, lm, hg, hr, slR', LV]
      repeat refine ⟨by kernel_rfl, by kernel_rfl, ?_⟩
      refine next' _ rfl ?_
      (refine canon_mk ?_; simp [method_specs_simp, ordIds_app, ordRen_app, ordIds_app2, ordRen_app2, -map_replicate, -map_set, -map_append, -map_reverse, -map_take, -map_drop, -map_tail, -map_map, sAk])
    · have eN := mAcc_eq p a b v i n
      rw [eN]
      simp [go_sem, -map_replicate, -map_set, -map_append, -map_reverse, -map_take, -map_drop, -map_tail, -any_map, -all_map, -mapM_map, -map_map, bitvec_to_nat, w3]
      refine next _ rfl ?_
      (refine canon_mk ?_; simp [method_specs_simp, ordIds_app, ordRen_app, ordIds_app2, ordRen_app2, -map_replicate, -map_set, -map_append, -map_reverse, -map_take, -map_drop, -map_tail, -map_map, sA])
    · (refine canon_mk ?_; simp [method_specs_simp, ordIds_app, ordRen_app, ordIds_app2, ordRen_app2, -map_replicate, -map_set, -map_append, -map_reverse, -map_take, -map_drop, -map_tail, -map_map, ← s0])
  · have e : inpl n n (fun i => mS a b v i n % p) (fun _ => 0) = mV p a b v := by rw [inpl_full, mV, hn]
    have lV : (mV p a b v).length = n := by rw [mV, tab_len, hn]
    rw [e]
    simp [go_sem, -map_replicate, -map_set, -map_append, -map_reverse, -map_take, -map_drop, -map_tail, -any_map, -all_map, -mapM_map, -map_map, bitvec_to_nat]
    simp [mvcgen_simp, -map_replicate, -map_set, -map_append, -map_reverse, -map_take, -map_drop, -map_tail, -any_map, -all_map, -mapM_map, -map_map, Try.f121, lV]
  · have e : List.replicate n (0 : Int) = inpl n 0 (fun i => mS a b v i n % p) (fun _ => 0) := by rw [inpl_zero, tab_replicate]
    (refine canon_mk ?_; simp [method_specs_simp, ordIds_app, ordRen_app, ordIds_app2, ordRen_app2, -map_replicate, -map_set, -map_append, -map_reverse, -map_take, -map_drop, -map_tail, -map_map, e])
def mo (p : Int) (a b : List Int) (t : Nat) : Int := rdI b 0 * rdI (mT p a b t) 0 % p
theorem run_moments (p : Int) (a b : List Int) (n : Nat) (h : jacB p a b = true) (h1 : 1 ≤ n) (h2 : n ≤ 1000) :
    runv E1 48 [(V.agg [V.int .i64 (p), (V.list (List.length (a)) (List.map (V.int .i64) (a))), (V.list (List.length (b)) (List.map (V.int .i64) (b)))]), .int .i64 (n : Int)] = some ⟨true, (V.agg [V.int .i64 (p), (V.uniq 1 (List.length (tab n (mo p a b))) (List.map (V.int .i64) (tab n (mo p a b))))]), [.agg [.undef, .undef, .undef], .undef]⟩ := by
  have cdk : codeOk Try.f48.ntmps (Try.f48.body.getD .skip) = true := by kernel_rfl
  refine run_of_WLr (fn := Try.f48) rfl Try.func48 rfl ⟨by simp [Try.ntmps48], by simp [wideA, ints], cdk, by simp [Try.f48]⟩ rfl (by simp [rebOk, noId, adoptT, adoptA, adoptL, adoptC, depth]) ?_
  have hp := jacB_prime h
  have hl := jacB_len h
  have g3 := up (run_Jfield p a b)
  have hm := run_matrix p a b h
  have d1 := up (run_mod p 1 hp)
  rw [Int.emod_eq_of_lt (by omega) (by omega)] at d1
  have c1 : a.length * 8 ≤ 140737488355328 := by omega
  have c2 : (a.length : Int) ≤ 9223372036854775807 := by omega
  have ha0 : 0 < a.length := by omega
  have lR := rws_len (mRow a b) a.length
  have tR : List.take a.length (List.map UV (rws (mRow a b) a.length)) = List.map UV (rws (mRow a b) a.length) := take_map_full (by omega)
  simp [go_sem, -map_replicate, -map_set, -map_append, -map_reverse, -map_take, -map_drop, -map_tail, -any_map, -all_map, -mapM_map, -map_map, bitvec_to_nat, g3, hm, d1, c1, c2, ha0, zerosI, fillV]
  repeat refine ⟨by kernel_rfl, by kernel_rfl, ?_⟩
  rw [WL_loop]
  refine WL_for (keep := [2, 4, 5, 6, 7, 8, 23, 24]) (rs := resM Try.f48) rfl (by kernel_rfl) (fun x => match x with | 0 => mkSt [(2, .ptr 0 0 0), (4, .ptr 1 0 0), (5, .int .i64 p), (6, .sl 2 0 0 a.length), (7, .sl 3 0 0 a.length), (8, .ptr 4 0 0), (23, .int .i64 (n : Int)), (24, .int .i64 0)] [some (⟨0, 1, 1, [.int .i64 p, (V.list (List.length (a)) (List.map (V.int .i64) (a))), (V.list (List.length (b)) (List.map (V.int .i64) (b)))]⟩), some (⟨0, 1, 1, [.int .i64 0, .nils]⟩), some (⟨0, 2, 1, (rws (mRow a b) a.length).map UV⟩), some (⟨0, 2, 1, (mT p a b 0).map (V.int .i64)⟩), some (⟨0, 1, 1, [.int .i64 p, .nils]⟩)] (resM Try.f48) | k + 1 => mkSt [(2, .ptr 0 0 0), (4, .ptr 1 0 0), (5, .int .i64 p), (6, .sl 2 0 0 a.length), (7, .sl 3 0 0 a.length), (8, .ptr 4 0 0), (23, .int .i64 (n : Int)), (24, .int .i64 ((k : Int) + 1))] [some (⟨0, 1, 1, [.int .i64 p, (V.list (List.length (a)) (List.map (V.int .i64) (a))), (V.list (List.length (b)) (List.map (V.int .i64) (b)))]⟩), some (⟨0, 1, 1, [.int .i64 0, .nils]⟩), some (⟨0, 2, 1, (rws (mRow a b) a.length).map UV⟩), some (⟨0, 2, 1, (mT p a b (k + 1)).map (V.int .i64)⟩), some (⟨0, 1, 1, [.int .i64 p, .sl 5 0 0 (k + 1)]⟩), some (⟨0, 2, 1, (tab (k + 1) (mo p a b)).map (V.int .i64)⟩)] (resM Try.f48)) n ?_ ?_ 0 _ (by omega) rfl ?_
  · intro k hk next
    have lT := mT_len p a b k
    have fT := mT_fine hp a b k
    have rb := jacB_b h ha0
    have rv := fT 0
    have pm := mul_small hp (show 0 ≤ rdI b 0 ∧ rdI b 0 < p by omega) rv
    have d2 := up (run_mul p (rdI b 0) (rdI (mT p a b k) 0) hp (IntWalk.i64_in _ (by omega)))
    rw [show rdI b 0 * rdI (mT p a b k) 0 % p = mo p a b k from rfl] at d2
    have ap := run_apply p a b (mT p a b k) h fT lT
    rw [show mV p a b (mT p a b k) = mT p a b (k + 1) from rfl] at ap
    have w3 : IntKind.i64.wrap ((k : Int) + 1) = (k : Int) + 1 := IntWalk.i64_in _ (by omega)
    have ki : (k : Int) < n := by omega
    have hb0 : 0 < b.length := by omega
    have hv0 : 0 < (mT p a b k).length := by omega
    have c3 : (k + 1) * 8 ≤ 140737488355328 := by omega
    have tA : tab (k + 1) (mo p a b) = tab k (mo p a b) ++ [mo p a b k] := tab_succ _ _
    have lA := tab_len k (mo p a b)
    have tv : List.take a.length (List.map (V.int .i64) (mT p a b k)) = List.map (V.int .i64) (mT p a b k) := take_map_full (by omega)
    generalize hTA : tab k (mo p a b) = TA at *
    generalize mo p a b k = x at *
    generalize hM1 : mT p a b (k + 1) = M1 at *
    rcases k with _ | k
    · dsimp only at next ⊢
      simp only [Nat.zero_add, Int.zero_add, Int.cast_ofNat_Int, Int.natCast_add, Nat.add_assoc, Nat.reduceAdd] at *
      obtain rfl : TA = [] := hTA.symm
      simp [go_sem, -map_replicate, -map_set, -map_append, -map_reverse, -map_take, -map_drop, -map_tail, -any_map, -all_map, -mapM_map, -map_map, bitvec_to_nat, hk, ki, w3, ha0, hb0, hv0, d2, ap, c3, lA, hTA, lT, lR, tR, tv, mapM_purN_UV, flatMap_idsN_UV, any_hasU_UV]
      repeat refine ⟨by kernel_rfl, by kernel_rfl, ?_⟩
      refine next _ rfl ?_
      (refine canon_mk ?_; simp [method_specs_simp, ordIds_app, ordRen_app, ordIds_app2, ordRen_app2, -map_replicate, -map_set, -map_append, -map_reverse, -map_take, -map_drop, -map_tail, -map_map, tA, hM1, ordIds_UV, ordRen_UV])
    · dsimp only at next ⊢
      simp only [Nat.zero_add, Int.zero_add, Int.cast_ofNat_Int, Int.natCast_add, Nat.add_assoc, Nat.reduceAdd] at *
      skip
      simp [go_sem, -map_replicate, -map_set, -map_append, -map_reverse, -map_take, -map_drop, -map_tail, -any_map, -all_map, -mapM_map, -map_map, bitvec_to_nat, hk, ki, w3, ha0, hb0, hv0, d2, ap, c3, lA, hTA, lT, lR, tR, tv, mapM_purN_UV, flatMap_idsN_UV, any_hasU_UV]
      repeat refine ⟨by kernel_rfl, by kernel_rfl, ?_⟩
      refine next _ rfl ?_
      (refine canon_mk ?_; simp [method_specs_simp, ordIds_app, ordRen_app, ordIds_app2, ordRen_app2, -map_replicate, -map_set, -map_append, -map_reverse, -map_take, -map_drop, -map_tail, -map_map, tA, hM1, ordIds_UV, ordRen_UV])
  · have lT := tab_len n (mo p a b)
    rcases n with _ | n
    · omega
    · dsimp only
      simp [go_sem, -map_replicate, -map_set, -map_append, -map_reverse, -map_take, -map_drop, -map_tail, -any_map, -all_map, -mapM_map, -map_map, bitvec_to_nat]
      simp [mvcgen_simp, -map_replicate, -map_set, -map_append, -map_reverse, -map_take, -map_drop, -map_tail, -any_map, -all_map, -mapM_map, -map_map, Try.f48, lT, szL, ldL, setCs0, setCs1, setCs2, setCsA2, setCsA3, ldM, fM0, fM1, szM, zM, plM0, plM1, agM, paM, ldJ, fJ0, fJ1, fJ2, szJ, zJ, plJ0, plJ1, plJ2, agJ, paJ, ctM, loadD, viewN]
  · (refine canon_mk ?_; simp [method_specs_simp, ordIds_app, ordRen_app, ordIds_app2, ordRen_app2, -map_replicate, -map_set, -map_append, -map_reverse, -map_take, -map_drop, -map_tail, -map_map, mT, ordIds_UV, ordRen_UV])
theorem run_l04Moments (p : Int) (a b : List Int) (n : Nat) (h : jacB p a b = true) (h1 : 1 ≤ n) (h2 : n ≤ 1000) :
    runv E1 51 [(V.agg [V.int .i64 (p), (V.list (List.length (a)) (List.map (V.int .i64) (a))), (V.list (List.length (b)) (List.map (V.int .i64) (b)))]), .int .i64 (n : Int)] = some ⟨true, (V.agg [V.int .i64 (p), (V.uniq 1 (List.length (tab n (mo p a b))) (List.map (V.int .i64) (tab n (mo p a b))))]), [.agg [.undef, .undef, .undef], .undef]⟩ := by
  have cdk : codeOk Try.f51.ntmps (Try.f51.body.getD .skip) = true := by kernel_rfl
  refine run_of_WLr (fn := Try.f51) rfl Try.func51 rfl ⟨by simp [Try.ntmps51], by simp [wideA, ints], cdk, by simp [Try.f51]⟩ rfl (by simp [rebOk, noId, adoptT, adoptA, adoptL, adoptC, depth]) ?_
  have hp := jacB_prime h
  have hl := jacB_len h
  have c1 : a.length * 8 ≤ 140737488355328 := by omega
  have c2 : (a.length : Int) ≤ 9223372036854775807 := by omega
  have ha0 : 0 < a.length := by omega
  have hpn : ¬ p = 0 := by omega
  simp [go_sem, -map_replicate, -map_set, -map_append, -map_reverse, -map_take, -map_drop, -map_tail, -any_map, -all_map, -mapM_map, -map_map, bitvec_to_nat, c1, c2, ha0, zerosI, fillV]
  repeat refine ⟨by kernel_rfl, by kernel_rfl, ?_⟩
  rw [WL_loop]
  refine WL_for (keep := [1, 2, 4, 5, 6, 7, 8]) (rs := resM Try.f51) rfl (by kernel_rfl) (fun x => match x with | 0 => mkSt [(1, .int .i64 (n : Int)), (2, .ptr 0 0 0), (4, .ptr 1 0 0), (5, .int .i64 (a.length : Int)), (6, .int .i64 p), (7, .ptr 2 0 0), (8, .sl 3 0 0 a.length)] [some (⟨0, 1, 1, [.int .i64 p, (V.list (List.length (a)) (List.map (V.int .i64) (a))), (V.list (List.length (b)) (List.map (V.int .i64) (b)))]⟩), some (⟨0, 1, 1, [.int .i64 0, .nils]⟩), some (⟨0, 1, 1, [.int .i64 p, .nils]⟩), some (⟨0, 2, 1, (mT p a b 0).map (V.int .i64)⟩)] (resM Try.f51) | k + 1 => mkSt [(1, .int .i64 ((n - (k + 1) : Nat) : Int)), (2, .ptr 0 0 0), (4, .ptr 1 0 0), (5, .int .i64 (a.length : Int)), (6, .int .i64 p), (7, .ptr 2 0 0), (8, .sl 3 0 0 a.length)] [some (⟨0, 1, 1, [.int .i64 p, (V.list (List.length (a)) (List.map (V.int .i64) (a))), (V.list (List.length (b)) (List.map (V.int .i64) (b)))]⟩), some (⟨0, 1, 1, [.int .i64 0, .nils]⟩), some (⟨0, 1, 1, [.int .i64 p, .sl 4 0 0 (k + 1)]⟩), some (⟨0, 2, 1, (mT p a b (k + 1)).map (V.int .i64)⟩), some (⟨0, 2, 1, (tab (k + 1) (mo p a b)).map (V.int .i64)⟩)] (resM Try.f51)) n ?_ ?_ 0 _ (by omega) rfl ?_
  · intro k hk next
    have lT := mT_len p a b k
    have fT := mT_fine hp a b k
    have rb := jacB_b h ha0
    have rv := fT 0
    have pm := mul_small hp rv (show 0 ≤ rdI b 0 ∧ rdI b 0 < p by omega)
    have u1 : IntKind.i64.wrap (rdI (mT p a b k) 0 * rdI b 0) = rdI (mT p a b k) 0 * rdI b 0 := IntWalk.i64_in _ (by omega)
    have d2 : (rdI (mT p a b k) 0 * rdI b 0).tmod p = mo p a b k := by
      unfold mo; rw [Int.mul_comm (rdI b 0)]; exact Int.tmod_eq_emod_of_nonneg pm.1
    have hb0 : 0 < b.length := by omega
    have hv0 : 0 < (mT p a b k).length := by omega
    have c3 : (k + 1) * 8 ≤ 140737488355328 := by omega
    have tA : tab (k + 1) (mo p a b) = tab k (mo p a b) ++ [mo p a b k] := tab_succ _ _
    have lA := tab_len k (mo p a b)
    have eM1 : mT p a b (k + 1) = inpl a.length a.length (fun i => mS a b (mT p a b k) i a.length % p) (fun _ => 0) := by rw [inpl_full]; rfl
    obtain ⟨N, hN⟩ : ∃ N : Nat, N = n - k := ⟨_, rfl⟩
    have N0 : 0 < N := by omega
    have N1 : (n - (k + 1) : Nat) = N - 1 := by omega
    have w1 : IntKind.i64.wrap ((N : Int) - 1) = ((N - 1 : Nat) : Int) := by rw [IntWalk.i64_in _ (by omega)]; omega
    generalize hTA : tab k (mo p a b) = TA at *
    generalize mo p a b k = x at *
    generalize hM1 : mT p a b (k + 1) = M1 at *
    generalize hM0 : mT p a b k = v at *
    have fin : ∀ st : St, st.rs = resM Try.f51 → canon [1, 2, 4, 5, 6, 7, 8] st = mkSt [(1, .int .i64 ((n - (k + 1) : Nat) : Int)), (2, .ptr 0 0 0), (4, .ptr 1 0 0), (5, .int .i64 (a.length : Int)), (6, .int .i64 p), (7, .ptr 2 0 0), (8, .sl 3 0 0 a.length)] [some (⟨0, 1, 1, [.int .i64 p, (V.list (List.length (a)) (List.map (V.int .i64) (a))), (V.list (List.length (b)) (List.map (V.int .i64) (b)))]⟩), some (⟨0, 1, 1, [.int .i64 0, .nils]⟩), some (⟨0, 1, 1, [.int .i64 p, .sl 4 0 0 (k + 1)]⟩), some (⟨0, 2, 1, M1.map (V.int .i64)⟩), some (⟨0, 2, 1, (tab (k + 1) (mo p a b)).map (V.int .i64)⟩)] (resM Try.f51) → WL E1 false _ _ st := fun st q1 q2 => next st q1 (by dsimp only; rw [hM1]; exact q2)
    rw [tA] at fin
    clear next
    have ltx : (TA ++ [x]).length = k + 1 := by simp [lA]
    rcases k with _ | k
    · dsimp only
      simp only [Nat.zero_add, Int.zero_add, Int.cast_ofNat_Int, Int.natCast_add, Nat.add_assoc, Nat.reduceAdd, Nat.sub_zero] at hN N1 c3 lA hTA ltx fin ⊢
      obtain rfl : TA = [] := hTA.symm
      rw [N1] at fin
      have hN2 := hN.symm ; subst hN2
      have N0i : (0 : Int) < n := by omega
      have N0n : 0 < n := by omega
      have eNn : n = n - 0 := by omega
      simp [go_sem, -map_replicate, -map_set, -map_append, -map_reverse, -map_take, -map_drop, -map_tail, -any_map, -all_map, -mapM_map, -map_map, bitvec_to_nat, N0, N0i, N0n, ← eNn, ha0, hb0, hv0, hM0, u1, d2, hpn, c1, c2, c3, lA, hTA, lT, zerosI]
      repeat refine ⟨by kernel_rfl, by kernel_rfl, ?_⟩
      rw [WL_loop]
      refine WL_for (keep := [1, 2, 4, 5, 6, 7, 8, 9, 10]) (rs := resM Try.f51) rfl (by kernel_rfl) (fun i => mkSt [(1, .int .i64 (n : Int)), (2, .ptr 0 0 0), (4, .ptr 1 0 0), (5, .int .i64 (a.length : Int)), (6, .int .i64 p), (7, .ptr 2 0 0), (8, .sl 3 0 0 a.length), (9, .sl 4 0 0 a.length), (10, .int .i64 (i : Int))] [some (⟨0, 1, 1, [.int .i64 p, (V.list (List.length (a)) (List.map (V.int .i64) (a))), (V.list (List.length (b)) (List.map (V.int .i64) (b)))]⟩), some (⟨0, 1, 1, [.int .i64 0, .nils]⟩), some (⟨0, 1, 1, [.int .i64 p, .sl 5 0 0 1]⟩), some (⟨0, 2, 1, v.map (V.int .i64)⟩), some (⟨0, 2, 1, (inpl a.length i (fun i => mS a b v i a.length % p) (fun _ => 0)).map (V.int .i64)⟩), some (⟨0, 2, 1, (([] : List Int) ++ [x]).map (V.int .i64)⟩)] (resM Try.f51)) a.length ?_ ?_ 0 _ (by omega) rfl ?_
      · intro i hi next'
        have sA : (inpl a.length i (fun i => mS a b v i a.length % p) (fun _ => 0)).set i (mS a b v i a.length % p) = _ := inpl_set a.length i (fun i => mS a b v i a.length % p) (fun _ => 0)
        have lA1 := inpl_len a.length i (fun i => mS a b v i a.length % p) (fun _ => 0)
        generalize inpl a.length i (fun i => mS a b v i a.length % p) (fun _ => 0) = A at *
        have r1 := fT i
        have r2 := fT (i + 1)
        have r3 := fT (i - 1)
        have ra := jacB_a h hi
        have rbi := jacB_b h hi
        have p1 := mul_small hp ra r1
        have p3 := mul_small hp (show 0 ≤ rdI b i ∧ rdI b i < p by omega) r3
        have x1r := mod_small hp (rdI a i * rdI v i)
        have eS : mS a b v i a.length = rdI a i * rdI v i + (if i + 1 < a.length then rdI v (i + 1) else 0) + (if 0 < i then rdI b i * rdI v (i - 1) else 0) := by
          unfold mS
          have q : (0 < i ∧ i ≤ a.length) ↔ 0 < i := by omega
          simp only [hi, if_true, q]
        have v1 : IntKind.i64.wrap (rdI a i * rdI v i) = rdI a i * rdI v i := IntWalk.i64_in _ (by omega)
        have t1 : (rdI a i * rdI v i).tmod p = rdI a i * rdI v i % p := Int.tmod_eq_emod_of_nonneg p1.1
        have w3 : IntKind.i64.wrap ((i : Int) + 1) = (i : Int) + 1 := IntWalk.i64_in _ (by omega)
        have ii : (i : Int) < a.length := by omega
        have ib : i < b.length := by omega
        have ibi : (i : Int) < b.length := by omega
        have iv : i < v.length := by omega
        have iq : (0 : Int) ≤ (i : Int) + 1 := by omega
        have l1 : (A.set i (rdI a i * rdI v i % p)).length = a.length := by simp [lA1]
        have g1 : rdI (A.set i (rdI a i * rdI v i % p)) i = rdI a i * rdI v i % p := by rw [rdI_set (by omega), if_pos rfl]
        by_cases q1 : i + 1 < a.length
        · have q1i : (i : Int) + 1 < a.length := by omega
          have q1v : i + 1 < v.length := by omega
          have v2 : IntKind.i64.wrap (rdI a i * rdI v i % p + rdI v (i + 1)) = rdI a i * rdI v i % p + rdI v (i + 1) := IntWalk.i64_in _ (by omega)
          have t2 : (rdI a i * rdI v i % p + rdI v (i + 1)).tmod p = (rdI a i * rdI v i + rdI v (i + 1)) % p := by rw [Int.tmod_eq_emod_of_nonneg (by omega), Int.emod_add_emod]
          have x2r := mod_small hp (rdI a i * rdI v i + rdI v (i + 1))
          have l2 : ((A.set i (rdI a i * rdI v i % p)).set i ((rdI a i * rdI v i + rdI v (i + 1)) % p)).length = a.length := by simp [lA1]
          have g2 : rdI ((A.set i (rdI a i * rdI v i % p)).set i ((rdI a i * rdI v i + rdI v (i + 1)) % p)) i = (rdI a i * rdI v i + rdI v (i + 1)) % p := by rw [rdI_set (by simp; omega), if_pos rfl]
          rw [if_pos q1] at eS
          by_cases q2 : 0 < i
          · rw [if_pos q2] at eS
            have w4 : IntKind.i64.wrap ((i : Int) - 1) = ((i - 1 : Nat) : Int) := by rw [IntWalk.i64_in _ (by omega)]; omega
            have im : i - 1 < v.length := by omega
            have ima : i - 1 < a.length := by omega
            have imi : ((i - 1 : Nat) : Int) < a.length := by omega
            have il : i ≤ a.length := by omega
            have v3 : IntKind.i64.wrap (rdI b i * rdI v (i - 1)) = rdI b i * rdI v (i - 1) := IntWalk.i64_in _ (by omega)
            have v4 : IntKind.i64.wrap ((rdI a i * rdI v i + rdI v (i + 1)) % p + rdI b i * rdI v (i - 1)) = (rdI a i * rdI v i + rdI v (i + 1)) % p + rdI b i * rdI v (i - 1) := IntWalk.i64_in _ (by omega)
            have t3 : ((rdI a i * rdI v i + rdI v (i + 1)) % p + rdI b i * rdI v (i - 1)).tmod p = mS a b v i a.length % p := by rw [Int.tmod_eq_emod_of_nonneg (by omega), Int.emod_add_emod, eS]
            have ss : ((A.set i (rdI a i * rdI v i % p)).set i ((rdI a i * rdI v i + rdI v (i + 1)) % p)).set i (mS a b v i a.length % p) = A.set i (mS a b v i a.length % p) := by rw [List.set_set, List.set_set]
            generalize hx3 : mS a b v i a.length % p = x3 at *
            generalize hx2 : (rdI a i * rdI v i + rdI v (i + 1)) % p = x2 at *
            generalize hx1 : rdI a i * rdI v i % p = x1 at *
            generalize hA2 : (A.set i x1).set i x2 = A2 at *
            generalize hA1 : A.set i x1 = A1 at *
            simp [go_sem, -map_replicate, -map_set, -map_append, -map_reverse, -map_take, -map_drop, -map_tail, -any_map, -all_map, -mapM_map, -map_map, bitvec_to_nat, hi, ii, ib, ibi, iv, iq, w3, w4, v1, v2, v3, v4, t1, t2, t3, l1, l2, lA1, g1, g2, q1, q1i, q1v, q2, im, ima, imi, il, hpn, hA1, hA2, lT]
            repeat refine ⟨by kernel_rfl, by kernel_rfl, ?_⟩
            refine next' _ rfl ?_
            (refine canon_mk ?_; simp [method_specs_simp, ordIds_app, ordRen_app, ordIds_app2, ordRen_app2, -map_replicate, -map_set, -map_append, -map_reverse, -map_take, -map_drop, -map_tail, -map_map, ss, sA])
          · have q2' : i = 0 := by omega
            rw [if_neg q2, Int.add_zero] at eS
            have t3 : (rdI a i * rdI v i % p + rdI v (i + 1)).tmod p = mS a b v i a.length % p := by rw [t2, eS]
            have ss : (A.set i (rdI a i * rdI v i % p)).set i (mS a b v i a.length % p) = A.set i (mS a b v i a.length % p) := by rw [List.set_set]
            generalize hx3 : mS a b v i a.length % p = x3 at *
            generalize hx1 : rdI a i * rdI v i % p = x1 at *
            generalize hA1 : A.set i x1 = A1 at *
            subst q2'
            simp only [Nat.zero_add, Int.zero_add, Int.cast_ofNat_Int] at *
            simp [go_sem, -map_replicate, -map_set, -map_append, -map_reverse, -map_take, -map_drop, -map_tail, -any_map, -all_map, -mapM_map, -map_map, bitvec_to_nat, hi, ii, ib, ibi, iv, iq, w3, v1, v2, t1, t3, l1, lA1, g1, q1, q1i, q1v, hpn, hA1, lT]
            repeat refine ⟨by kernel_rfl, by kernel_rfl, ?_⟩
            refine next' _ rfl ?_
            (refine canon_mk ?_; simp [method_specs_simp, ordIds_app, ordRen_app, ordIds_app2, ordRen_app2, -map_replicate, -map_set, -map_append, -map_reverse, -map_take, -map_drop, -map_tail, -map_map, ss, sA])
        · have q1i : ¬ (i : Int) + 1 < a.length := by omega
          rw [if_neg q1, Int.add_zero] at eS
          by_cases q2 : 0 < i
          · rw [if_pos q2] at eS
            have w4 : IntKind.i64.wrap ((i : Int) - 1) = ((i - 1 : Nat) : Int) := by rw [IntWalk.i64_in _ (by omega)]; omega
            have im : i - 1 < v.length := by omega
            have ima : i - 1 < a.length := by omega
            have imi : ((i - 1 : Nat) : Int) < a.length := by omega
            have il : i ≤ a.length := by omega
            have v3 : IntKind.i64.wrap (rdI b i * rdI v (i - 1)) = rdI b i * rdI v (i - 1) := IntWalk.i64_in _ (by omega)
            have v4 : IntKind.i64.wrap (rdI a i * rdI v i % p + rdI b i * rdI v (i - 1)) = rdI a i * rdI v i % p + rdI b i * rdI v (i - 1) := IntWalk.i64_in _ (by omega)
            have t3 : (rdI a i * rdI v i % p + rdI b i * rdI v (i - 1)).tmod p = mS a b v i a.length % p := by rw [Int.tmod_eq_emod_of_nonneg (by omega), Int.emod_add_emod, eS]
            have ss : (A.set i (rdI a i * rdI v i % p)).set i (mS a b v i a.length % p) = A.set i (mS a b v i a.length % p) := by rw [List.set_set]
            generalize hx3 : mS a b v i a.length % p = x3 at *
            generalize hx1 : rdI a i * rdI v i % p = x1 at *
            generalize hA1 : A.set i x1 = A1 at *
            simp [go_sem, -map_replicate, -map_set, -map_append, -map_reverse, -map_take, -map_drop, -map_tail, -any_map, -all_map, -mapM_map, -map_map, bitvec_to_nat, hi, ii, ib, ibi, iv, iq, w3, w4, v1, v3, v4, t1, t3, l1, lA1, g1, q1, q1i, q2, im, ima, imi, il, hpn, hA1, lT]
            repeat refine ⟨by kernel_rfl, by kernel_rfl, ?_⟩
            refine next' _ rfl ?_
            (refine canon_mk ?_; simp [method_specs_simp, ordIds_app, ordRen_app, ordIds_app2, ordRen_app2, -map_replicate, -map_set, -map_append, -map_reverse, -map_take, -map_drop, -map_tail, -map_map, ss, sA])
          · have q2' : i = 0 := by omega
            rw [if_neg q2, Int.add_zero] at eS
            have t3 : (rdI a i * rdI v i).tmod p = mS a b v i a.length % p := by rw [t1, eS]
            generalize hx3 : mS a b v i a.length % p = x3 at *
            subst q2'
            simp only [Nat.zero_add, Int.zero_add, Int.cast_ofNat_Int] at *
            simp [go_sem, -map_replicate, -map_set, -map_append, -map_reverse, -map_take, -map_drop, -map_tail, -any_map, -all_map, -mapM_map, -map_map, bitvec_to_nat, hi, ii, ib, ibi, iv, iq, w3, v1, t3, lA1, q1, q1i, hpn, lT]
            repeat refine ⟨by kernel_rfl, by kernel_rfl, ?_⟩
            refine next' _ rfl ?_
            (refine canon_mk ?_; simp [method_specs_simp, ordIds_app, ordRen_app, ordIds_app2, ordRen_app2, -map_replicate, -map_set, -map_append, -map_reverse, -map_take, -map_drop, -map_tail, -map_map, sA])
      · rw [← eM1]
        simp [go_sem, -map_replicate, -map_set, -map_append, -map_reverse, -map_take, -map_drop, -map_tail, -any_map, -all_map, -mapM_map, -map_map, bitvec_to_nat, w1]
        refine fin _ rfl ?_
        (refine canon_mk ?_; simp [method_specs_simp, ordIds_app, ordRen_app, ordIds_app2, ordRen_app2, -map_replicate, -map_set, -map_append, -map_reverse, -map_take, -map_drop, -map_tail, -map_map])
      · have e0 : List.replicate a.length (0 : Int) = inpl a.length 0 (fun i => mS a b v i a.length % p) (fun _ => 0) := by rw [inpl_zero, tab_replicate]
        (refine canon_mk ?_; simp [method_specs_simp, ordIds_app, ordRen_app, ordIds_app2, ordRen_app2, -map_replicate, -map_set, -map_append, -map_reverse, -map_take, -map_drop, -map_tail, -map_map, e0, hM0])
    · dsimp only
      simp only [Nat.zero_add, Int.zero_add, Int.cast_ofNat_Int, Int.natCast_add, Nat.add_assoc, Nat.reduceAdd, Nat.sub_zero] at hN N1 c3 lA hTA ltx fin ⊢
      skip
      rw [N1] at fin
      try rw [← hN]
      have N0i : (0 : Int) < N := by omega
      have N0n : 0 < n := by omega
      have eNn : N = n - (k + 1) := by omega
      simp [go_sem, -map_replicate, -map_set, -map_append, -map_reverse, -map_take, -map_drop, -map_tail, -any_map, -all_map, -mapM_map, -map_map, bitvec_to_nat, N0, N0i, N0n, ← eNn, ha0, hb0, hv0, hM0, u1, d2, hpn, c1, c2, c3, lA, hTA, lT, zerosI]
      repeat refine ⟨by kernel_rfl, by kernel_rfl, ?_⟩
      rw [WL_loop]
      refine WL_for (keep := [1, 2, 4, 5, 6, 7, 8, 9, 10]) (rs := resM Try.f51) rfl (by kernel_rfl) (fun i => mkSt [(1, .int .i64 (N : Int)), (2, .ptr 0 0 0), (4, .ptr 1 0 0), (5, .int .i64 (a.length : Int)), (6, .int .i64 p), (7, .ptr 2 0 0), (8, .sl 3 0 0 a.length), (9, .sl 4 0 0 a.length), (10, .int .i64 (i : Int))] [some (⟨0, 1, 1, [.int .i64 p, (V.list (List.length (a)) (List.map (V.int .i64) (a))), (V.list (List.length (b)) (List.map (V.int .i64) (b)))]⟩), some (⟨0, 1, 1, [.int .i64 0, .nils]⟩), some (⟨0, 1, 1, [.int .i64 p, .sl 5 0 0 (k + 2)]⟩), some (⟨0, 2, 1, v.map (V.int .i64)⟩), some (⟨0, 2, 1, (inpl a.length i (fun i => mS a b v i a.length % p) (fun _ => 0)).map (V.int .i64)⟩), some (⟨0, 2, 1, (TA ++ [x]).map (V.int .i64)⟩)] (resM Try.f51)) a.length ?_ ?_ 0 _ (by omega) rfl ?_
      · intro i hi next'
        have sA : (inpl a.length i (fun i => mS a b v i a.length % p) (fun _ => 0)).set i (mS a b v i a.length % p) = _ := inpl_set a.length i (fun i => mS a b v i a.length % p) (fun _ => 0)
        have lA1 := inpl_len a.length i (fun i => mS a b v i a.length % p) (fun _ => 0)
        generalize inpl a.length i (fun i => mS a b v i a.length % p) (fun _ => 0) = A at *
        have r1 := fT i
        have r2 := fT (i + 1)
        have r3 := fT (i - 1)
        have ra := jacB_a h hi
        have rbi := jacB_b h hi
        have p1 := mul_small hp ra r1
        have p3 := mul_small hp (show 0 ≤ rdI b i ∧ rdI b i < p by omega) r3
        have x1r := mod_small hp (rdI a i * rdI v i)
        have eS : mS a b v i a.length = rdI a i * rdI v i + (if i + 1 < a.length then rdI v (i + 1) else 0) + (if 0 < i then rdI b i * rdI v (i - 1) else 0) := by
          unfold mS
          have q : (0 < i ∧ i ≤ a.length) ↔ 0 < i := by omega
          simp only [hi, if_true, q]
        have v1 : IntKind.i64.wrap (rdI a i * rdI v i) = rdI a i * rdI v i := IntWalk.i64_in _ (by omega)
        have t1 : (rdI a i * rdI v i).tmod p = rdI a i * rdI v i % p := Int.tmod_eq_emod_of_nonneg p1.1
        have w3 : IntKind.i64.wrap ((i : Int) + 1) = (i : Int) + 1 := IntWalk.i64_in _ (by omega)
        have ii : (i : Int) < a.length := by omega
        have ib : i < b.length := by omega
        have ibi : (i : Int) < b.length := by omega
        have iv : i < v.length := by omega
        have iq : (0 : Int) ≤ (i : Int) + 1 := by omega
        have l1 : (A.set i (rdI a i * rdI v i % p)).length = a.length := by simp [lA1]
        have g1 : rdI (A.set i (rdI a i * rdI v i % p)) i = rdI a i * rdI v i % p := by rw [rdI_set (by omega), if_pos rfl]
        by_cases q1 : i + 1 < a.length
        · have q1i : (i : Int) + 1 < a.length := by omega
          have q1v : i + 1 < v.length := by omega
          have v2 : IntKind.i64.wrap (rdI a i * rdI v i % p + rdI v (i + 1)) = rdI a i * rdI v i % p + rdI v (i + 1) := IntWalk.i64_in _ (by omega)
          have t2 : (rdI a i * rdI v i % p + rdI v (i + 1)).tmod p = (rdI a i * rdI v i + rdI v (i + 1)) % p := by rw [Int.tmod_eq_emod_of_nonneg (by omega), Int.emod_add_emod]
          have x2r := mod_small hp (rdI a i * rdI v i + rdI v (i + 1))
          have l2 : ((A.set i (rdI a i * rdI v i % p)).set i ((rdI a i * rdI v i + rdI v (i + 1)) % p)).length = a.length := by simp [lA1]
          have g2 : rdI ((A.set i (rdI a i * rdI v i % p)).set i ((rdI a i * rdI v i + rdI v (i + 1)) % p)) i = (rdI a i * rdI v i + rdI v (i + 1)) % p := by rw [rdI_set (by simp; omega), if_pos rfl]
          rw [if_pos q1] at eS
          by_cases q2 : 0 < i
          · rw [if_pos q2] at eS
            have w4 : IntKind.i64.wrap ((i : Int) - 1) = ((i - 1 : Nat) : Int) := by rw [IntWalk.i64_in _ (by omega)]; omega
            have im : i - 1 < v.length := by omega
            have ima : i - 1 < a.length := by omega
            have imi : ((i - 1 : Nat) : Int) < a.length := by omega
            have il : i ≤ a.length := by omega
            have v3 : IntKind.i64.wrap (rdI b i * rdI v (i - 1)) = rdI b i * rdI v (i - 1) := IntWalk.i64_in _ (by omega)
            have v4 : IntKind.i64.wrap ((rdI a i * rdI v i + rdI v (i + 1)) % p + rdI b i * rdI v (i - 1)) = (rdI a i * rdI v i + rdI v (i + 1)) % p + rdI b i * rdI v (i - 1) := IntWalk.i64_in _ (by omega)
            have t3 : ((rdI a i * rdI v i + rdI v (i + 1)) % p + rdI b i * rdI v (i - 1)).tmod p = mS a b v i a.length % p := by rw [Int.tmod_eq_emod_of_nonneg (by omega), Int.emod_add_emod, eS]
            have ss : ((A.set i (rdI a i * rdI v i % p)).set i ((rdI a i * rdI v i + rdI v (i + 1)) % p)).set i (mS a b v i a.length % p) = A.set i (mS a b v i a.length % p) := by rw [List.set_set, List.set_set]
            generalize hx3 : mS a b v i a.length % p = x3 at *
            generalize hx2 : (rdI a i * rdI v i + rdI v (i + 1)) % p = x2 at *
            generalize hx1 : rdI a i * rdI v i % p = x1 at *
            generalize hA2 : (A.set i x1).set i x2 = A2 at *
            generalize hA1 : A.set i x1 = A1 at *
            simp [go_sem, -map_replicate, -map_set, -map_append, -map_reverse, -map_take, -map_drop, -map_tail, -any_map, -all_map, -mapM_map, -map_map, bitvec_to_nat, hi, ii, ib, ibi, iv, iq, w3, w4, v1, v2, v3, v4, t1, t2, t3, l1, l2, lA1, g1, g2, q1, q1i, q1v, q2, im, ima, imi, il, hpn, hA1, hA2, lT]
            repeat refine ⟨by kernel_rfl, by kernel_rfl, ?_⟩
            refine next' _ rfl ?_
            (refine canon_mk ?_; simp [method_specs_simp, ordIds_app, ordRen_app, ordIds_app2, ordRen_app2, -map_replicate, -map_set, -map_append, -map_reverse, -map_take, -map_drop, -map_tail, -map_map, ss, sA])
          · have q2' : i = 0 := by omega
            rw [if_neg q2, Int.add_zero] at eS
            have t3 : (rdI a i * rdI v i % p + rdI v (i + 1)).tmod p = mS a b v i a.length % p := by rw [t2, eS]
            have ss : (A.set i (rdI a i * rdI v i % p)).set i (mS a b v i a.length % p) = A.set i (mS a b v i a.length % p) := by rw [List.set_set]
            generalize hx3 : mS a b v i a.length % p = x3 at *
            generalize hx1 : rdI a i * rdI v i % p = x1 at *
            generalize hA1 : A.set i x1 = A1 at *
            subst q2'
            simp only [Nat.zero_add, Int.zero_add, Int.cast_ofNat_Int] at *
            simp [go_sem, -map_replicate, -map_set, -map_append, -map_reverse, -map_take, -map_drop, -map_tail, -any_map, -all_map, -mapM_map, -map_map, bitvec_to_nat, hi, ii, ib, ibi, iv, iq, w3, v1, v2, t1, t3, l1, lA1, g1, q1, q1i, q1v, hpn, hA1, lT]
            repeat refine ⟨by kernel_rfl, by kernel_rfl, ?_⟩
            refine next' _ rfl ?_
            (refine canon_mk ?_; simp [method_specs_simp, ordIds_app, ordRen_app, ordIds_app2, ordRen_app2, -map_replicate, -map_set, -map_append, -map_reverse, -map_take, -map_drop, -map_tail, -map_map, ss, sA])
        · have q1i : ¬ (i : Int) + 1 < a.length := by omega
          rw [if_neg q1, Int.add_zero] at eS
          by_cases q2 : 0 < i
          · rw [if_pos q2] at eS
            have w4 : IntKind.i64.wrap ((i : Int) - 1) = ((i - 1 : Nat) : Int) := by rw [IntWalk.i64_in _ (by omega)]; omega
            have im : i - 1 < v.length := by omega
            have ima : i - 1 < a.length := by omega
            have imi : ((i - 1 : Nat) : Int) < a.length := by omega
            have il : i ≤ a.length := by omega
            have v3 : IntKind.i64.wrap (rdI b i * rdI v (i - 1)) = rdI b i * rdI v (i - 1) := IntWalk.i64_in _ (by omega)
            have v4 : IntKind.i64.wrap (rdI a i * rdI v i % p + rdI b i * rdI v (i - 1)) = rdI a i * rdI v i % p + rdI b i * rdI v (i - 1) := IntWalk.i64_in _ (by omega)
            have t3 : (rdI a i * rdI v i % p + rdI b i * rdI v (i - 1)).tmod p = mS a b v i a.length % p := by rw [Int.tmod_eq_emod_of_nonneg (by omega), Int.emod_add_emod, eS]
            have ss : (A.set i (rdI a i * rdI v i % p)).set i (mS a b v i a.length % p) = A.set i (mS a b v i a.length % p) := by rw [List.set_set]
            generalize hx3 : mS a b v i a.length % p = x3 at *
            generalize hx1 : rdI a i * rdI v i % p = x1 at *
            generalize hA1 : A.set i x1 = A1 at *
            simp [go_sem, -map_replicate, -map_set, -map_append, -map_reverse, -map_take, -map_drop, -map_tail, -any_map, -all_map, -mapM_map, -map_map, bitvec_to_nat, hi, ii, ib, ibi, iv, iq, w3, w4, v1, v3, v4, t1, t3, l1, lA1, g1, q1, q1i, q2, im, ima, imi, il, hpn, hA1, lT]
            repeat refine ⟨by kernel_rfl, by kernel_rfl, ?_⟩
            refine next' _ rfl ?_
            (refine canon_mk ?_; simp [method_specs_simp, ordIds_app, ordRen_app, ordIds_app2, ordRen_app2, -map_replicate, -map_set, -map_append, -map_reverse, -map_take, -map_drop, -map_tail, -map_map, ss, sA])
          · have q2' : i = 0 := by omega
            rw [if_neg q2, Int.add_zero] at eS
            have t3 : (rdI a i * rdI v i).tmod p = mS a b v i a.length % p := by rw [t1, eS]
            generalize hx3 : mS a b v i a.length % p = x3 at *
            subst q2'
            simp only [Nat.zero_add, Int.zero_add, Int.cast_ofNat_Int] at *
            simp [go_sem, -map_replicate, -map_set, -map_append, -map_reverse, -map_take, -map_drop, -map_tail, -any_map, -all_map, -mapM_map, -map_map, bitvec_to_nat, hi, ii, ib, ibi, iv, iq, w3, v1, t3, lA1, q1, q1i, hpn, lT]
            repeat refine ⟨by kernel_rfl, by kernel_rfl, ?_⟩
            refine next' _ rfl ?_
            (refine canon_mk ?_; simp [method_specs_simp, ordIds_app, ordRen_app, ordIds_app2, ordRen_app2, -map_replicate, -map_set, -map_append, -map_reverse, -map_take, -map_drop, -map_tail, -map_map, sA])
      · rw [← eM1]
        simp [go_sem, -map_replicate, -map_set, -map_append, -map_reverse, -map_take, -map_drop, -map_tail, -any_map, -all_map, -mapM_map, -map_map, bitvec_to_nat, w1]
        refine fin _ rfl ?_
        (refine canon_mk ?_; simp [method_specs_simp, ordIds_app, ordRen_app, ordIds_app2, ordRen_app2, -map_replicate, -map_set, -map_append, -map_reverse, -map_take, -map_drop, -map_tail, -map_map])
      · have e0 : List.replicate a.length (0 : Int) = inpl a.length 0 (fun i => mS a b v i a.length % p) (fun _ => 0) := by rw [inpl_zero, tab_replicate]
        (refine canon_mk ?_; simp [method_specs_simp, ordIds_app, ordRen_app, ordIds_app2, ordRen_app2, -map_replicate, -map_set, -map_append, -map_reverse, -map_take, -map_drop, -map_tail, -map_map, e0, hM0])
  · have lT := tab_len n (mo p a b)
    rcases n with _ | n
    · omega
    · dsimp only
      simp only [Nat.sub_self]
      simp [go_sem, -map_replicate, -map_set, -map_append, -map_reverse, -map_take, -map_drop, -map_tail, -any_map, -all_map, -mapM_map, -map_map, bitvec_to_nat]
      simp [mvcgen_simp, -map_replicate, -map_set, -map_append, -map_reverse, -map_take, -map_drop, -map_tail, -any_map, -all_map, -mapM_map, -map_map, Try.f51, lT, szL, ldL, setCs0, setCs1, setCs2, setCsA2, setCsA3, ldM, fM0, fM1, szM, zM, plM0, plM1, agM, paM, ldJ, fJ0, fJ1, fJ2, szJ, zJ, plJ0, plJ1, plJ2, agJ, paJ, ctM, loadD, viewN]
  · (refine canon_mk ?_; simp [method_specs_simp, ordIds_app, ordRen_app, ordIds_app2, ordRen_app2, -map_replicate, -map_set, -map_append, -map_reverse, -map_take, -map_drop, -map_tail, -map_map, mT])
def momJ (p : Int) (a b : List Int) (n : Int) : Int × List Int × Int :=
  if jacB p a b then (if decide (1 ≤ n) && decide (n ≤ 2 * (a.length : Int)) then (p, tab n.toNat (mo p a b), 0) else (0, [], 2)) else (0, [], 1)
theorem momJ_len (p : Int) (a b : List Int) (n : Int) (ha : a.length ≤ 1048576) (hb : b.length ≤ 1048576) : (momJ p a b n).2.1.length ≤ 1048576 := by
  unfold momJ
  split
  · split
    · rename_i h1 h2
      simp only [Bool.and_eq_true, decide_eq_true_eq] at h2
      have := (jacB_len h1).2.1
      simp [tab_len]; omega
    · simp
  · simp
theorem run_specMomentsOfJacobi (p : Int) (a b : List Int) (n : Int) (ha : a.length ≤ 1048576) (hb : b.length ≤ 1048576) :
    runv E1 10 [(V.agg [V.int .i64 (p), (V.list (List.length (a)) (List.map (V.int .i64) (a))), (V.list (List.length (b)) (List.map (V.int .i64) (b)))]), .int .i64 n] = some ⟨true, .tup [(V.agg [V.int .i64 ((momJ p a b n).1), (V.uniq 1 (List.length ((momJ p a b n).2.1)) (List.map (V.int .i64) ((momJ p a b n).2.1)))]), .int .i64 (momJ p a b n).2.2], [.agg [.undef, .undef, .undef], .undef]⟩ := by
  have cdk : codeOk Try.f10.ntmps (Try.f10.body.getD .skip) = true := by kernel_rfl
  refine run_of_WLr (fn := Try.f10) rfl Try.func10 rfl ⟨by simp [Try.ntmps10], by simp [wideA, ints], cdk, by simp [Try.f10]⟩ rfl (by simp [rebOk, noId, adoptT, adoptA, adoptL, adoptC, depth]) ?_
  have h1 := up (run_l03Is p a b (by omega) (by omega))
  have h2 := up (run_l01In' n 1 (2 * (a.length : Int)))
  cases e : jacB p a b with
  | false =>
    rw [e] at h1
    simp [go_sem, -map_replicate, -map_set, -map_append, -map_reverse, -map_take, -map_drop, -map_tail, -any_map, -all_map, -mapM_map, -map_map, bitvec_to_nat, h1, fillV]
    simp [mvcgen_simp, -map_replicate, -map_set, -map_append, -map_reverse, -map_take, -map_drop, -map_tail, -any_map, -all_map, -mapM_map, -map_map, Try.f10, momJ, e, szL, ldL, setCs0, setCs1, setCs2, setCsA2, setCsA3, ldM, fM0, fM1, szM, zM, plM0, plM1, agM, paM, ldJ, fJ0, fJ1, fJ2, szJ, zJ, plJ0, plJ1, plJ2, agJ, paJ, ctM, loadD, viewN]
  | true =>
    rw [e] at h1
    have hl := jacB_len e
    have w1 : IntKind.i64.wrap (2 * (a.length : Int)) = 2 * (a.length : Int) := IntWalk.i64_in _ (by omega)
    have w0 : IntKind.i64.wrap (a.length : Int) = (a.length : Int) := IntWalk.i64_in _ (by omega)
    cases e2 : (decide (1 ≤ n) && decide (n ≤ 2 * (a.length : Int))) with
    | false =>
      rw [e2] at h2
      have hps : momJ p a b n = (0, [], 2) := by simp only [momJ, e, e2]; rfl
      simp [go_sem, -map_replicate, -map_set, -map_append, -map_reverse, -map_take, -map_drop, -map_tail, -any_map, -all_map, -mapM_map, -map_map, bitvec_to_nat, h1, h2, w0, w1, convD, undI64, fillV]
      simp [mvcgen_simp, -map_replicate, -map_set, -map_append, -map_reverse, -map_take, -map_drop, -map_tail, -any_map, -all_map, -mapM_map, -map_map, Try.f10, hps, szL, ldL, setCs0, setCs1, setCs2, setCsA2, setCsA3, ldM, fM0, fM1, szM, zM, plM0, plM1, agM, paM, ldJ, fJ0, fJ1, fJ2, szJ, zJ, plJ0, plJ1, plJ2, agJ, paJ, ctM, loadD, viewN]
    | true =>
      rw [e2] at h2
      have hps : momJ p a b n = (p, tab n.toNat (mo p a b), 0) := by simp only [momJ, e, e2]; rfl
      simp only [Bool.and_eq_true, decide_eq_true_eq] at e2
      obtain ⟨N, rfl⟩ : ∃ N : Nat, n = N := ⟨n.toNat, by omega⟩
      rw [Int.toNat_natCast] at hps
      have h3 := run_l04Moments p a b N e (by omega) (by omega)
      have lT := tab_len N (mo p a b)
      simp [go_sem, -map_replicate, -map_set, -map_append, -map_reverse, -map_take, -map_drop, -map_tail, -any_map, -all_map, -mapM_map, -map_map, bitvec_to_nat, h1, h2, h3, w0, w1, lT, convD, undI64, fillV]
      simp [mvcgen_simp, -map_replicate, -map_set, -map_append, -map_reverse, -map_take, -map_drop, -map_tail, -any_map, -all_map, -mapM_map, -map_map, Try.f10, hps, lT, szL, ldL, setCs0, setCs1, setCs2, setCsA2, setCsA3, ldM, fM0, fM1, szM, zM, plM0, plM1, agM, paM, ldJ, fJ0, fJ1, fJ2, szJ, zJ, plJ0, plJ1, plJ2, agJ, paJ, ctM, loadD, viewN]
theorem run_implMomentsOfJacobi (p : Int) (a b : List Int) (n : Int) (ha : a.length ≤ 1048576) (hb : b.length ≤ 1048576) :
    runv E1 9 [(V.agg [V.int .i64 (p), (V.list (List.length (a)) (List.map (V.int .i64) (a))), (V.list (List.length (b)) (List.map (V.int .i64) (b)))]), .int .i64 n] = some ⟨true, .tup [(V.agg [V.int .i64 ((momJ p a b n).1), (V.uniq 1 (List.length ((momJ p a b n).2.1)) (List.map (V.int .i64) ((momJ p a b n).2.1)))]), .int .i64 (momJ p a b n).2.2], [.agg [.undef, .undef, .undef], .undef]⟩ := by
  have cdk : codeOk Try.f9.ntmps (Try.f9.body.getD .skip) = true := by kernel_rfl
  refine run_of_WLr (fn := Try.f9) rfl Try.func9 rfl ⟨by simp [Try.ntmps9], by simp [wideA, ints], cdk, by simp [Try.f9]⟩ rfl (by simp [rebOk, noId, adoptT, adoptA, adoptL, adoptC, depth]) ?_
  have g4 := up (run_Jsize p a b)
  have w1 : IntKind.i64.wrap (2 * (a.length : Int)) = 2 * (a.length : Int) := IntWalk.i64_in _ (by omega)
  have g2 := up (run_within n 1 (2 * (a.length : Int)))
  have h1 := up (run_jacobiCode p a b (decide (1 ≤ n) && decide (n ≤ 2 * (a.length : Int))) (by omega) (by omega))
  cases e : jacB p a b with
  | false =>
    rw [e] at h1
    simp only [Bool.false_eq_true, if_false] at h1
    cases e2 : (decide (1 ≤ n) && decide (n ≤ 2 * (a.length : Int))) <;> rw [e2] at g2 h1 <;> simp [go_sem, -map_replicate, -map_set, -map_append, -map_reverse, -map_take, -map_drop, -map_tail, -any_map, -all_map, -mapM_map, -map_map, bitvec_to_nat, g2, g4, h1, w1, fillV] <;> (repeat refine ⟨by kernel_rfl, by kernel_rfl, ?_⟩) <;> simp [mvcgen_simp, -map_replicate, -map_set, -map_append, -map_reverse, -map_take, -map_drop, -map_tail, -any_map, -all_map, -mapM_map, -map_map, Try.f9, momJ, e, szL, ldL, setCs0, setCs1, setCs2, setCsA2, setCsA3, ldM, fM0, fM1, szM, zM, plM0, plM1, agM, paM, ldJ, fJ0, fJ1, fJ2, szJ, zJ, plJ0, plJ1, plJ2, agJ, paJ, ctM, loadD, viewN]
  | true =>
    rw [e] at h1
    have hl := jacB_len e
    cases e2 : (decide (1 ≤ n) && decide (n ≤ 2 * (a.length : Int))) with
    | false =>
      rw [e2] at g2 h1
      have hps : momJ p a b n = (0, [], 2) := by simp only [momJ, e, e2]; rfl
      simp only [Bool.false_eq_true, if_false, if_true] at h1
      simp [go_sem, -map_replicate, -map_set, -map_append, -map_reverse, -map_take, -map_drop, -map_tail, -any_map, -all_map, -mapM_map, -map_map, bitvec_to_nat, g2, g4, h1, w1, fillV]
      repeat refine ⟨by kernel_rfl, by kernel_rfl, ?_⟩
      simp [mvcgen_simp, -map_replicate, -map_set, -map_append, -map_reverse, -map_take, -map_drop, -map_tail, -any_map, -all_map, -mapM_map, -map_map, Try.f9, hps, szL, ldL, setCs0, setCs1, setCs2, setCsA2, setCsA3, ldM, fM0, fM1, szM, zM, plM0, plM1, agM, paM, ldJ, fJ0, fJ1, fJ2, szJ, zJ, plJ0, plJ1, plJ2, agJ, paJ, ctM, loadD, viewN]
    | true =>
      rw [e2] at g2 h1
      have hps : momJ p a b n = (p, tab n.toNat (mo p a b), 0) := by simp only [momJ, e, e2]; rfl
      simp only [if_true] at h1
      simp only [Bool.and_eq_true, decide_eq_true_eq] at e2
      obtain ⟨N, rfl⟩ : ∃ N : Nat, n = N := ⟨n.toNat, by omega⟩
      rw [Int.toNat_natCast] at hps
      have h3 := run_moments p a b N e (by omega) (by omega)
      have lT := tab_len N (mo p a b)
      simp [go_sem, -map_replicate, -map_set, -map_append, -map_reverse, -map_take, -map_drop, -map_tail, -any_map, -all_map, -mapM_map, -map_map, bitvec_to_nat, g2, g4, h1, h3, w1, lT, fillV]
      repeat refine ⟨by kernel_rfl, by kernel_rfl, ?_⟩
      simp [mvcgen_simp, -map_replicate, -map_set, -map_append, -map_reverse, -map_take, -map_drop, -map_tail, -any_map, -all_map, -mapM_map, -map_map, Try.f9, hps, lT, szL, ldL, setCs0, setCs1, setCs2, setCsA2, setCsA3, ldM, fM0, fM1, szM, zM, plM0, plM1, agM, paM, ldJ, fJ0, fJ1, fJ2, szJ, zJ, plJ0, plJ1, plJ2, agJ, paJ, ctM, loadD, viewN]

end Go.Proofs.Ytacfkfdnncgjcaa.Ev
