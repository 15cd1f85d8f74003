/- ConnectJacobi: both texts and the law. Conditions: none. -/
import Derived.Test.YtabnganndcmcnaaFnBJ
set_option linter.unusedSimpArgs false
set_option linter.unusedVariables false
namespace Go.Proofs.Ytabnganndcmcnaa.Ev
open Go Go.Proofs
open List (map_replicate map_set map_append map_reverse map_take map_drop map_tail any_map all_map mapM_map map_map)
set_option maxRecDepth 4000
set_option maxHeartbeats 4000000

def conB (p : Int) (a : List Int) (q : Int) (c : List Int) (k : Int) : Bool := decide (p = q) && (decide (0 ≤ k) && decide (k ≤ (min a.length c.length : Nat)))
def conR (p : Int) (a b : List Int) (q : Int) (c d : List Int) (k : Int) : List Int × Int :=
  if jacB p a b && jacB q c d then (if conB p a q c k then (expandP q c d (pl p a b k.toNat).1, 0) else ([], 2)) else ([], 1)
theorem conR_len (p : Int) (a b : List Int) (q : Int) (c d : List Int) (k : Int) (ha : a.length ≤ 1048576) (hb : b.length ≤ 1048576) (hc : c.length ≤ 1048576) (hd : d.length ≤ 1048576) : (conR p a b q c d k).1.length ≤ 1048576 := by
  unfold conR
  split
  · split
    · rename_i h1 h2
      simp only [Bool.and_eq_true] at h1
      simp only [conB, Bool.and_eq_true, decide_eq_true_eq] at h2
      have := (pl_le p a b k.toNat).1
      have := (jacB_len h1.1).2.1
      simp only [expandP_len]; omega
    · simp
  · simp
theorem run_specConnectJacobi (p : Int) (a b : List Int) (q : Int) (c d : List Int) (k : Int) (ha : a.length ≤ 1048576) (hb : b.length ≤ 1048576) (hc : c.length ≤ 1048576) (hd : d.length ≤ 1048576) :
    runv E1 84 [(V.agg [V.int .i64 (p), (V.list (List.length (a)) (List.map (V.int .i64) (a))), (V.list (List.length (b)) (List.map (V.int .i64) (b)))]), (V.agg [V.int .i64 (q), (V.list (List.length (c)) (List.map (V.int .i64) (c))), (V.list (List.length (d)) (List.map (V.int .i64) (d)))]), .int .i64 k] = some ⟨true, .tup [(V.uniq 1 (List.length ((conR p a b q c d k).1)) (List.map (V.int .i64) ((conR p a b q c d k).1))), .int .i64 (conR p a b q c d k).2], [.agg [.undef, .undef, .undef], .agg [.undef, .undef, .undef], .undef]⟩ := by
  have cdk : codeOk Try.f84.ntmps (Try.f84.body.getD .skip) = true := by kernel_rfl
  refine run_of_WLr (fn := Try.f84) rfl Try.func84 rfl ⟨by simp [Try.ntmps84], by simp [wideA, ints], cdk, by simp [Try.f84]⟩ rfl (by simp [rebOk, noId, adoptT, adoptA, adoptL, adoptC, depth]) ?_
  have h1 := run_l10Code p a b [k] ha hb (by simp)
  have h2 := run_l10Code q c d [k] hc hd (by simp)
  simp only [List.length_cons, List.length_nil, List.map_cons, List.map_nil, Nat.zero_add, List.all_cons, List.all_nil, Bool.and_true] at h1 h2
  cases e : jacB p a b with
  | false =>
    rw [e] at h1
    cases e' : jacB q c d <;> rw [e'] at h2 <;> cases x : inK c k <;> rw [x] at h2 <;> simp [go_sem, -map_replicate, -map_set, -map_append, -map_reverse, -map_take, -map_drop, -map_tail, -any_map, -all_map, -mapM_map, -map_map, slL, szI, ldI, zI, undL, apL, setI, rdI_get, Nat.add_one_le_iff, fillV, zeros1, zeros0, appendD, segV, lvO, goneOf, sliceD, bound, Nat.add_assoc, szL, ldL, setCs0, setCs1, setCs2, setCsA2, setCsA3, ldM, fM0, fM1, szM, zM, plM0, plM1, agM, paM, ldJ, fJ0, fJ1, fJ2, szJ, zJ, plJ0, plJ1, plJ2, agJ, paJ, h1, h2] <;> (repeat refine ⟨by kernel_rfl, by kernel_rfl, ?_⟩) <;> simp [mvcgen_simp, -map_replicate, -map_set, -map_append, -map_reverse, -map_take, -map_drop, -map_tail, -any_map, -all_map, -mapM_map, -map_map, Try.f84, conR, e]
  | true =>
    rw [e] at h1
    cases e' : jacB q c d with
    | false =>
      rw [e'] at h2
      cases x : inK a k <;> rw [x] at h1 <;> simp [go_sem, -map_replicate, -map_set, -map_append, -map_reverse, -map_take, -map_drop, -map_tail, -any_map, -all_map, -mapM_map, -map_map, slL, szI, ldI, zI, undL, apL, setI, rdI_get, Nat.add_one_le_iff, fillV, zeros1, zeros0, appendD, segV, lvO, goneOf, sliceD, bound, Nat.add_assoc, szL, ldL, setCs0, setCs1, setCs2, setCsA2, setCsA3, ldM, fM0, fM1, szM, zM, plM0, plM1, agM, paM, ldJ, fJ0, fJ1, fJ2, szJ, zJ, plJ0, plJ1, plJ2, agJ, paJ, h1, h2] <;> (repeat refine ⟨by kernel_rfl, by kernel_rfl, ?_⟩) <;> simp [mvcgen_simp, -map_replicate, -map_set, -map_append, -map_reverse, -map_take, -map_drop, -map_tail, -any_map, -all_map, -mapM_map, -map_map, Try.f84, conR, e, e']
    | true =>
      rw [e'] at h2
      have hp := jacB_prime e
      have hl := jacB_len e
      have hl' := jacB_len e'
      have hm : ∀ x : Bool, conB p a q c k = x → (decide (p = q) && (inK a k && inK c k)) = x := fun x h => by
        rw [← h]
        unfold conB inK
        rw [Bool.eq_iff_iff]
        simp only [Bool.and_eq_true, decide_eq_true_eq]
        omega
      cases x : inK a k with
      | false =>
        rw [x] at h1
        have hps : conR p a b q c d k = ([], 2) := by
          have : conB p a q c k = false := by
            cases y : conB p a q c k
            · rfl
            · have := hm _ y; rw [x] at this; simp at this
          simp only [conR, e, e', this]; rfl
        cases z : inK c k <;> rw [z] at h2 <;> simp [go_sem, -map_replicate, -map_set, -map_append, -map_reverse, -map_take, -map_drop, -map_tail, -any_map, -all_map, -mapM_map, -map_map, slL, szI, ldI, zI, undL, apL, setI, rdI_get, Nat.add_one_le_iff, fillV, zeros1, zeros0, appendD, segV, lvO, goneOf, sliceD, bound, Nat.add_assoc, szL, ldL, setCs0, setCs1, setCs2, setCsA2, setCsA3, ldM, fM0, fM1, szM, zM, plM0, plM1, agM, paM, ldJ, fJ0, fJ1, fJ2, szJ, zJ, plJ0, plJ1, plJ2, agJ, paJ, h1, h2] <;> (repeat refine ⟨by kernel_rfl, by kernel_rfl, ?_⟩) <;> simp [mvcgen_simp, -map_replicate, -map_set, -map_append, -map_reverse, -map_take, -map_drop, -map_tail, -any_map, -all_map, -mapM_map, -map_map, Try.f84, hps]
      | true =>
        rw [x] at h1
        cases z : inK c k with
        | false =>
          rw [z] at h2
          have hps : conR p a b q c d k = ([], 2) := by
            have : conB p a q c k = false := by
              cases y : conB p a q c k
              · rfl
              · have := hm _ y; rw [z] at this; simp at this
            simp only [conR, e, e', this]; rfl
          simp [go_sem, -map_replicate, -map_set, -map_append, -map_reverse, -map_take, -map_drop, -map_tail, -any_map, -all_map, -mapM_map, -map_map, slL, szI, ldI, zI, undL, apL, setI, rdI_get, Nat.add_one_le_iff, fillV, zeros1, zeros0, appendD, segV, lvO, goneOf, sliceD, bound, Nat.add_assoc, szL, ldL, setCs0, setCs1, setCs2, setCsA2, setCsA3, ldM, fM0, fM1, szM, zM, plM0, plM1, agM, paM, ldJ, fJ0, fJ1, fJ2, szJ, zJ, plJ0, plJ1, plJ2, agJ, paJ, h1, h2]
          repeat refine ⟨by kernel_rfl, by kernel_rfl, ?_⟩
          simp [mvcgen_simp, -map_replicate, -map_set, -map_append, -map_reverse, -map_take, -map_drop, -map_tail, -any_map, -all_map, -mapM_map, -map_map, Try.f84, hps]
        | true =>
          rw [z] at h2
          by_cases pq : p = q
          · subst pq
            have hps : conR p a b p c d k = (expandP p c d (pl p a b k.toNat).1, 0) := by
              have : conB p a p c k = true := by
                cases y : conB p a p c k
                · have := hm _ y; rw [x, z] at this; simp at this
                · rfl
              simp only [conR, e, e', this]; rfl
            simp only [inK, Bool.and_eq_true, decide_eq_true_eq] at x z
            obtain ⟨K, rfl⟩ : ∃ K : Nat, k = K := ⟨k.toNat, by omega⟩
            rw [Int.toNat_natCast] at hps
            have h3 := run_l03Poly p a b K e (by omega)
            have l2 := (pl_le p a b K).1
            have f2 := (pl_fine hp a b K).1
            generalize (pl p a b K).1 = f at *
            have h4 := run_l10Expand p c d f e' (by omega) f2
            have lE := expandP_len p c d f
            simp [go_sem, -map_replicate, -map_set, -map_append, -map_reverse, -map_take, -map_drop, -map_tail, -any_map, -all_map, -mapM_map, -map_map, slL, szI, ldI, zI, undL, apL, setI, rdI_get, Nat.add_one_le_iff, fillV, zeros1, zeros0, appendD, segV, lvO, goneOf, sliceD, bound, Nat.add_assoc, szL, ldL, setCs0, setCs1, setCs2, setCsA2, setCsA3, ldM, fM0, fM1, szM, zM, plM0, plM1, agM, paM, ldJ, fJ0, fJ1, fJ2, szJ, zJ, plJ0, plJ1, plJ2, agJ, paJ, h1, h2, h3, h4, lE]
            repeat refine ⟨by kernel_rfl, by kernel_rfl, ?_⟩
            simp [mvcgen_simp, -map_replicate, -map_set, -map_append, -map_reverse, -map_take, -map_drop, -map_tail, -any_map, -all_map, -mapM_map, -map_map, Try.f84, hps, lE]
          · have hps : conR p a b q c d k = ([], 2) := by
              have : conB p a q c k = false := by simp [conB, pq]
              simp only [conR, e, e', this]; rfl
            simp [go_sem, -map_replicate, -map_set, -map_append, -map_reverse, -map_take, -map_drop, -map_tail, -any_map, -all_map, -mapM_map, -map_map, slL, szI, ldI, zI, undL, apL, setI, rdI_get, Nat.add_one_le_iff, fillV, zeros1, zeros0, appendD, segV, lvO, goneOf, sliceD, bound, Nat.add_assoc, szL, ldL, setCs0, setCs1, setCs2, setCsA2, setCsA3, ldM, fM0, fM1, szM, zM, plM0, plM1, agM, paM, ldJ, fJ0, fJ1, fJ2, szJ, zJ, plJ0, plJ1, plJ2, agJ, paJ, h1, h2, pq]
            repeat refine ⟨by kernel_rfl, by kernel_rfl, ?_⟩
            simp [mvcgen_simp, -map_replicate, -map_set, -map_append, -map_reverse, -map_take, -map_drop, -map_tail, -any_map, -all_map, -mapM_map, -map_map, Try.f84, hps]
theorem run_implConnectJacobi (p : Int) (a b : List Int) (q : Int) (c d : List Int) (k : Int) (ha : a.length ≤ 1048576) (hb : b.length ≤ 1048576) (hc : c.length ≤ 1048576) (hd : d.length ≤ 1048576) :
    runv E1 83 [(V.agg [V.int .i64 (p), (V.list (List.length (a)) (List.map (V.int .i64) (a))), (V.list (List.length (b)) (List.map (V.int .i64) (b)))]), (V.agg [V.int .i64 (q), (V.list (List.length (c)) (List.map (V.int .i64) (c))), (V.list (List.length (d)) (List.map (V.int .i64) (d)))]), .int .i64 k] = some ⟨true, .tup [(V.uniq 1 (List.length ((conR p a b q c d k).1)) (List.map (V.int .i64) ((conR p a b q c d k).1))), .int .i64 (conR p a b q c d k).2], [.agg [.undef, .undef, .undef], .agg [.undef, .undef, .undef], .undef]⟩ := by
  have cdk : codeOk Try.f83.ntmps (Try.f83.body.getD .skip) = true := by kernel_rfl
  refine run_of_WLr (fn := Try.f83) rfl Try.func83 rfl ⟨by simp [Try.ntmps83], by simp [wideA, ints], cdk, by simp [Try.f83]⟩ rfl (by simp [rebOk, noId, adoptT, adoptA, adoptL, adoptC, depth]) ?_
  have h1 := up (run_IsJacobi p a b (by omega) (by omega))
  have h2 := up (run_IsJacobi q c d (by omega) (by omega))
  have g1 := up (run_Jfield p a b)
  have g2 := up (run_Jsize p a b)
  have g3 := up (run_Jsize q c d)
  have mm : mmV mnI [V.int .i64 a.length, V.int .i64 c.length] = some (V.int .i64 (min a.length c.length : Nat)) := by
    simp [mmV, mnI]
    split <;> omega
  have g4 := up (run_within k 0 (min a.length c.length : Nat))
  cases e : jacB p a b with
  | false =>
    rw [e] at h1
    simp [go_sem, -map_replicate, -map_set, -map_append, -map_reverse, -map_take, -map_drop, -map_tail, -any_map, -all_map, -mapM_map, -map_map, slL, szI, ldI, zI, undL, apL, setI, rdI_get, Nat.add_one_le_iff, fillV, zeros1, zeros0, appendD, segV, lvO, goneOf, sliceD, bound, Nat.add_assoc, szL, ldL, setCs0, setCs1, setCs2, setCsA2, setCsA3, ldM, fM0, fM1, szM, zM, plM0, plM1, agM, paM, ldJ, fJ0, fJ1, fJ2, szJ, zJ, plJ0, plJ1, plJ2, agJ, paJ, h1]
    simp [mvcgen_simp, -map_replicate, -map_set, -map_append, -map_reverse, -map_take, -map_drop, -map_tail, -any_map, -all_map, -mapM_map, -map_map, Try.f83, conR, e]
  | true =>
    rw [e] at h1
    cases e' : jacB q c d with
    | false =>
      rw [e'] at h2
      simp [go_sem, -map_replicate, -map_set, -map_append, -map_reverse, -map_take, -map_drop, -map_tail, -any_map, -all_map, -mapM_map, -map_map, slL, szI, ldI, zI, undL, apL, setI, rdI_get, Nat.add_one_le_iff, fillV, zeros1, zeros0, appendD, segV, lvO, goneOf, sliceD, bound, Nat.add_assoc, szL, ldL, setCs0, setCs1, setCs2, setCsA2, setCsA3, ldM, fM0, fM1, szM, zM, plM0, plM1, agM, paM, ldJ, fJ0, fJ1, fJ2, szJ, zJ, plJ0, plJ1, plJ2, agJ, paJ, h1, h2]
      simp [mvcgen_simp, -map_replicate, -map_set, -map_append, -map_reverse, -map_take, -map_drop, -map_tail, -any_map, -all_map, -mapM_map, -map_map, Try.f83, conR, e, e']
    | true =>
      rw [e'] at h2
      have hp := jacB_prime e
      have hl := jacB_len e
      have hl' := jacB_len e'
      by_cases pq : p = q
      · subst pq
        cases x : (decide (0 ≤ k) && decide (k ≤ (min a.length c.length : Nat))) with
        | false =>
          rw [x] at g4
          have hps : conR p a b p c d k = ([], 2) := by
            have : conB p a p c k = false := by simp only [conB, x]; simp
            simp only [conR, e, e', this]; rfl
          generalize hM : min a.length c.length = M at *
          simp [go_sem, -map_replicate, -map_set, -map_append, -map_reverse, -map_take, -map_drop, -map_tail, -any_map, -all_map, -mapM_map, -map_map, slL, szI, ldI, zI, undL, apL, setI, rdI_get, Nat.add_one_le_iff, fillV, zeros1, zeros0, appendD, segV, lvO, goneOf, sliceD, bound, Nat.add_assoc, szL, ldL, setCs0, setCs1, setCs2, setCsA2, setCsA3, ldM, fM0, fM1, szM, zM, plM0, plM1, agM, paM, ldJ, fJ0, fJ1, fJ2, szJ, zJ, plJ0, plJ1, plJ2, agJ, paJ, h1, h2, g2, g3, mm, g4]
          repeat refine ⟨by kernel_rfl, by kernel_rfl, ?_⟩
          simp [mvcgen_simp, -map_replicate, -map_set, -map_append, -map_reverse, -map_take, -map_drop, -map_tail, -any_map, -all_map, -mapM_map, -map_map, Try.f83, hps]
        | true =>
          rw [x] at g4
          have hps : conR p a b p c d k = (expandP p c d (pl p a b k.toNat).1, 0) := by
            have : conB p a p c k = true := by simp only [conB, x]; simp
            simp only [conR, e, e', this]; rfl
          simp only [Bool.and_eq_true, decide_eq_true_eq] at x
          obtain ⟨K, rfl⟩ : ∃ K : Nat, k = K := ⟨k.toNat, by omega⟩
          rw [Int.toNat_natCast] at hps
          have h3 := run_polys p a b e
          have h4 := run_polys p c d e'
          have tk : List.take (c.length + 1) (List.map UV (prow p c d (c.length + 1))) = List.map UV (prow p c d (c.length + 1)) := take_map_full (by rw [prow_len]; exact Nat.le_refl _)
          have l2 := (pl_le p a b K).1
          have f2 := (pl_fine hp a b K).1
          have hK : K < a.length + 1 := by omega
          have hKi : (K : Int) < (a.length : Int) + 1 := by omega
          have h5 := run_expand p c d (pl p a b K).1 e' (by omega) f2
          have lE := expandP_len p c d (pl p a b K).1
          generalize hM : min a.length c.length = M at *
          simp [go_sem, -map_replicate, -map_set, -map_append, -map_reverse, -map_take, -map_drop, -map_tail, -any_map, -all_map, -mapM_map, -map_map, slL, szI, ldI, zI, undL, apL, setI, rdI_get, Nat.add_one_le_iff, fillV, zeros1, zeros0, appendD, segV, lvO, goneOf, sliceD, bound, Nat.add_assoc, szL, ldL, setCs0, setCs1, setCs2, setCsA2, setCsA3, ldM, fM0, fM1, szM, zM, plM0, plM1, agM, paM, ldJ, fJ0, fJ1, fJ2, szJ, zJ, plJ0, plJ1, plJ2, agJ, paJ, h1, h2, h3, h4, h5, g1, g2, g3, mm, g4, lE, hK, hKi, prow_get, prow_len, viewN_UV, LV, slR, tk, mapM_purN_UV, flatMap_idsN_UV, any_hasU_UV]
          repeat refine ⟨by kernel_rfl, by kernel_rfl, ?_⟩
          simp [mvcgen_simp, -map_replicate, -map_set, -map_append, -map_reverse, -map_take, -map_drop, -map_tail, -any_map, -all_map, -mapM_map, -map_map, Try.f83, hps, lE]
      · have hps : conR p a b q c d k = ([], 2) := by
          have : conB p a q c k = false := by simp [conB, pq]
          simp only [conR, e, e', this]; rfl
        simp [go_sem, -map_replicate, -map_set, -map_append, -map_reverse, -map_take, -map_drop, -map_tail, -any_map, -all_map, -mapM_map, -map_map, slL, szI, ldI, zI, undL, apL, setI, rdI_get, Nat.add_one_le_iff, fillV, zeros1, zeros0, appendD, segV, lvO, goneOf, sliceD, bound, Nat.add_assoc, szL, ldL, setCs0, setCs1, setCs2, setCsA2, setCsA3, ldM, fM0, fM1, szM, zM, plM0, plM1, agM, paM, ldJ, fJ0, fJ1, fJ2, szJ, zJ, plJ0, plJ1, plJ2, agJ, paJ, h1, h2, pq]
        repeat refine ⟨by kernel_rfl, by kernel_rfl, ?_⟩
        simp [mvcgen_simp, -map_replicate, -map_set, -map_append, -map_reverse, -map_take, -map_drop, -map_tail, -any_map, -all_map, -mapM_map, -map_map, Try.f83, hps]

end Go.Proofs.Ytabnganndcmcnaa.Ev
