/- The law of linear combinations. Conditions: none. -/
import Derived.Test.YtabnganndcmcnaaFnEG
import Derived.Test.YtabnganndcmcnaaFnEE
import Derived.Test.YtabnganndcmcnaaFnEC
import Derived.Test.YtabnganndcmcnaaFnDH
set_option linter.unusedSimpArgs false
set_option linter.unusedVariables false
namespace Go.Proofs.Ytabnganndcmcnaa.Ev
open Go Go.Proofs
open List (map_replicate map_set map_append map_reverse map_take map_drop map_tail any_map all_map mapM_map map_map)
set_option maxRecDepth 4000
set_option maxHeartbeats 16000000
attribute [local bitvec_to_nat] slL szI ldI zI undL apL setI rdI_get Nat.add_one_le_iff fillV zeros1 zeros0 appendD segV lvO goneOf sliceD bound Nat.add_assoc szL ldL setCs0 setCs1 setCs2 setCsA2 setCsA3 ldM fM0 fM1 szM zM plM0 plM1 agM paM ldJ fJ0 fJ1 fJ2 szJ zJ plJ0 plJ1 plJ2 agJ paJ

theorem lin_sum {p : Int} {a b f : List Int} (h : jacB p a b = true) (hf : fine p f) (tf : trimL f = f) (hl : f.length ≤ a.length + 1) :
    runv E4 74 [(V.agg [V.int .i64 (p), (V.list (List.length (a)) (List.map (V.int .i64) (a))), (V.list (List.length (b)) (List.map (V.int .i64) (b)))]), (V.list (List.length (expandP p a b f)) (List.map (V.int .i64) (expandP p a b f)))] = some ⟨true, .tup [(V.uniq 1 (List.length (f)) (List.map (V.int .i64) (f))), .int .i64 0], [.agg [.undef, .undef, .undef], .undef]⟩ := by
  have hp := jacB_prime h
  have hj := jacB_len h
  have le := expandP_len p a b f
  have r := up4 (run_implSumBy p a b (expandP p a b f) (by omega) (by omega) (by omega))
  have e : sumR p a b (expandP p a b f) = (f, 0) := by
    unfold sumR
    rw [h, if_pos rfl, show listB p a (expandP p a b f) = true by
      unfold listB
      rw [fine_hasB (expandP_fine hp a b hf), le]
      simp; omega, if_pos rfl, le, sum_expand hp a b hf tf]
  rw [e] at r
  exact r
theorem lin_exp {p : Int} {a b f : List Int} (h : (expR p a b f).2 = 0) : f.length ≤ 25 ∧
    runv E4 74 [(V.agg [V.int .i64 (p), (V.list (List.length (a)) (List.map (V.int .i64) (a))), (V.list (List.length (b)) (List.map (V.int .i64) (b)))]), (V.list (List.length ((expR p a b f).1)) (List.map (V.int .i64) ((expR p a b f).1)))] = some ⟨true, .tup [(V.uniq 1 (List.length (f)) (List.map (V.int .i64) (f))), .int .i64 0], [.agg [.undef, .undef, .undef], .undef]⟩ := by
  unfold expR at h ⊢
  by_cases c : (jacB p a b && polyB p f) = true
  · rw [if_pos c] at h ⊢
    simp only [Bool.and_eq_true] at c
    by_cases c2 : f.length ≤ a.length + 1
    · rw [if_pos c2]
      have ht := polyB_trim c.2
      exact ⟨ht.2, lin_sum c.1 (polyB_fine (jacB_prime c.1).1 c.2) ht.1 c2⟩
    · rw [if_neg c2] at h; simp at h
  · rw [if_neg c] at h; simp at h
theorem lin_exp_bad {p : Int} {a b f : List Int} (h : ¬ (expR p a b f).2 = 0) : (expR p a b f).1 = [] := by
  unfold expR at h ⊢
  (repeat' split) <;> first | rfl | (exfalso; simp_all)
theorem lin_prd {p : Int} {a b : List Int} {k l : Int} (h : (prdR p a b k l).2 = 0) : (0 ≤ k ∧ k ≤ 12 ∧ 0 ≤ l ∧ l ≤ 12) ∧ ((prdR p a b k l).1.length : Int) = k + l + 1 ∧
    runv E4 80 [(V.agg [V.int .i64 (p), (V.list (List.length (a)) (List.map (V.int .i64) (a))), (V.list (List.length (b)) (List.map (V.int .i64) (b)))]), (V.int .i64 (l)), (V.int .i64 (k))] = some ⟨true, .tup [(V.uniq 1 (List.length ((prdR p a b k l).1)) (List.map (V.int .i64) ((prdR p a b k l).1))), .int .i64 0], [.agg [.undef, .undef, .undef], .undef, .undef]⟩ := by
  have e : prdR p a b l k = prdR p a b k l ∧ (0 ≤ k ∧ k ≤ 12 ∧ 0 ≤ l ∧ l ≤ 12) ∧ ((prdR p a b k l).1.length : Int) = k + l + 1 ∧ a.length ≤ 12 ∧ b.length ≤ 12 := by
    unfold prdR at h ⊢
    cases c : jacB p a b with
    | false => rw [c] at h; simp at h
    | true =>
      rw [c, if_pos rfl] at h
      rw [if_pos rfl]
      have hp := jacB_prime c
      have hj := jacB_len c
      by_cases c2 : prdB a k l = true
      · have c3 := c2
        simp only [prdB, inK, Bool.and_eq_true, decide_eq_true_eq] at c3
        have c4 : prdB a l k = true := by
          simp only [prdB, inK, Bool.and_eq_true, decide_eq_true_eq]; omega
        rw [if_pos rfl, if_pos c4, if_pos c2, mulP_comm hp]
        refine ⟨rfl, by omega, ?_, by omega, by omega⟩
        simp only [expandP_len]
        rw [mul_pl_len hp]; omega
      · rw [if_neg c2] at h; simp at h
  obtain ⟨e1, e2, e3, e4, e5⟩ := e
  have r := up4 (run_implExpandProduct p a b l k (by omega) (by omega))
  rw [e1, h] at r
  exact ⟨e2, e3, r⟩
theorem lin_poly {p : Int} {a b : List Int} {k : Int} (h : jacB p a b = true) (hk : 0 ≤ k ∧ k ≤ a.length) :
    runv E4 21 [(V.agg [V.int .i64 (p), (V.list (List.length (a)) (List.map (V.int .i64) (a))), (V.list (List.length (b)) (List.map (V.int .i64) (b)))]), (V.int .i64 (k))] = some ⟨false, .tup [(V.list (List.length ((pl p a b k.toNat).1)) (List.map (V.int .i64) ((pl p a b k.toNat).1))), .int .i64 0], [.agg [.undef, .undef, .undef], .undef]⟩ := by
  obtain ⟨n, rfl⟩ : ∃ n : Nat, k = n := ⟨k.toNat, by omega⟩
  have r := up4 (run_implPolyOf p a b n h (by omega))
  rw [Int.toNat_natCast]
  exact r
theorem lin_con {p : Int} {a b : List Int} {q : Int} {c d : List Int} {k : Int} (h : (conR p a b q c d k).2 = 0) : (pl p a b k.toNat).1.length ≤ 20 ∧
    runv E4 74 [(V.agg [V.int .i64 (q), (V.list (List.length (c)) (List.map (V.int .i64) (c))), (V.list (List.length (d)) (List.map (V.int .i64) (d)))]), (V.list (List.length ((conR p a b q c d k).1)) (List.map (V.int .i64) ((conR p a b q c d k).1)))] = some ⟨true, .tup [(V.uniq 1 (List.length ((pl p a b k.toNat).1)) (List.map (V.int .i64) ((pl p a b k.toNat).1))), .int .i64 0], [.agg [.undef, .undef, .undef], .undef]⟩ ∧
    runv E4 21 [(V.agg [V.int .i64 (p), (V.list (List.length (a)) (List.map (V.int .i64) (a))), (V.list (List.length (b)) (List.map (V.int .i64) (b)))]), (V.int .i64 (k))] = some ⟨false, .tup [(V.list (List.length ((pl p a b k.toNat).1)) (List.map (V.int .i64) ((pl p a b k.toNat).1))), .int .i64 0], [.agg [.undef, .undef, .undef], .undef]⟩ := by
  unfold conR at h ⊢
  by_cases c1 : (jacB p a b && jacB q c d) = true
  · rw [if_pos c1] at h ⊢
    simp only [Bool.and_eq_true] at c1
    have hp := jacB_prime c1.1
    have hj := jacB_len c1.1
    have hj2 := jacB_len c1.2
    by_cases c2 : conB p a q c k = true
    · rw [if_pos c2]
      simp only [conB, Bool.and_eq_true, decide_eq_true_eq] at c2
      obtain ⟨rfl, c3⟩ := c2
      have l1 := pl_length hp a b k.toNat
      exact ⟨by omega, lin_sum c1.2 (pl_fine hp a b _).1 (pl_trim hp a b _) (by omega), lin_poly c1.1 (by omega)⟩
    · rw [if_neg c2] at h; simp at h
  · rw [if_neg c1] at h; simp at h
theorem lin_drv {p : Int} {a b : List Int} {k : Int} (h : (drvR p a b k).2 = 0) : ∃ P D : List Int, (P.length ≤ 20 ∧ D.length ≤ 20) ∧
    runv E4 74 [(V.agg [V.int .i64 (p), (V.list (List.length (a)) (List.map (V.int .i64) (a))), (V.list (List.length (b)) (List.map (V.int .i64) (b)))]), (V.list (List.length ((drvR p a b k).1)) (List.map (V.int .i64) ((drvR p a b k).1)))] = some ⟨true, .tup [(V.uniq 1 (List.length (D)) (List.map (V.int .i64) (D))), .int .i64 0], [.agg [.undef, .undef, .undef], .undef]⟩ ∧
    runv E4 21 [(V.agg [V.int .i64 (p), (V.list (List.length (a)) (List.map (V.int .i64) (a))), (V.list (List.length (b)) (List.map (V.int .i64) (b)))]), (V.int .i64 (k))] = some ⟨false, .tup [(V.list (List.length (P)) (List.map (V.int .i64) (P))), .int .i64 0], [.agg [.undef, .undef, .undef], .undef]⟩ ∧
    (runv E4 91 [(V.int .i64 (p)), (V.list (List.length (P)) (List.map (V.int .i64) (P)))] = some ⟨true, .tup [(V.uniq 1 (List.length (D)) (List.map (V.int .i64) (D))), .int .i64 0], [.undef, .undef]⟩ ∨ (D = [] ∧ runv E4 91 [(V.int .i64 (p)), (V.list (List.length (P)) (List.map (V.int .i64) (P)))] = some ⟨false, .tup [.list 0 [], .int .i64 0], [.undef, .undef]⟩)) := by
  unfold drvR at h ⊢
  cases c : jacB p a b with
  | false => rw [c] at h; simp at h
  | true =>
    rw [c, if_pos rfl] at h
    rw [if_pos rfl]
    have hp := jacB_prime c
    have hj := jacB_len c
    by_cases c2 : inK a k = true
    · rw [if_pos c2]
      simp only [inK, Bool.and_eq_true, decide_eq_true_eq] at c2
      have l1 := pl_length hp a b k.toNat
      have l2 := drvP_le p (pl p a b k.toNat).1
      have hb : polyB p (pl p a b k.toNat).1 = true := polyB_of (pl_fine hp a b _).1 (pl_trim hp a b _) (by omega)
      refine ⟨(pl p a b k.toNat).1, drvP p (pl p a b k.toNat).1, ⟨by omega, by omega⟩, lin_sum c (drvP_fine hp _) (trimL_idem _) (by omega), lin_poly c (by omega), ?_⟩
      by_cases c3 : 1 < (pl p a b k.toNat).1.length
      · exact .inl (up4 (run_implDerivativeOf p _ (jacB_primeB c) hp hb c3))
      · exact .inr ⟨drvP_nil c3, up4 (run_implDerivativeOf0 p _ (jacB_primeB c) hb c3)⟩
    · rw [if_neg c2] at h; simp at h
theorem lin_tim {p : Int} {a b cs : List Int} (h : (timesR p a b cs).2 = 0) : ∃ S M : List Int, (S.length ≤ 20 ∧ M.length ≤ 30) ∧
    runv E4 74 [(V.agg [V.int .i64 (p), (V.list (List.length (a)) (List.map (V.int .i64) (a))), (V.list (List.length (b)) (List.map (V.int .i64) (b)))]), (V.list (List.length ((timesR p a b cs).1)) (List.map (V.int .i64) ((timesR p a b cs).1)))] = some ⟨true, .tup [(V.uniq 1 (List.length (M)) (List.map (V.int .i64) (M))), .int .i64 0], [.agg [.undef, .undef, .undef], .undef]⟩ ∧
    runv E4 74 [(V.agg [V.int .i64 (p), (V.list (List.length (a)) (List.map (V.int .i64) (a))), (V.list (List.length (b)) (List.map (V.int .i64) (b)))]), (V.list (List.length (cs)) (List.map (V.int .i64) (cs)))] = some ⟨true, .tup [(V.uniq 1 (List.length (S)) (List.map (V.int .i64) (S))), .int .i64 0], [.agg [.undef, .undef, .undef], .undef]⟩ ∧
    runv E4 92 [(V.int .i64 (p)), (V.list (List.length (S)) (List.map (V.int .i64) (S))), .list 2 [.int .i64 0, .int .i64 1]] = some ⟨true, .tup [(V.uniq 1 (List.length (M)) (List.map (V.int .i64) (M))), .int .i64 0], [.undef, .undef, .undef]⟩ := by
  unfold timesR at h ⊢
  cases c : jacB p a b with
  | false => rw [c] at h; simp at h
  | true =>
    rw [c, if_pos rfl] at h
    rw [if_pos rfl]
    have hp := jacB_prime c
    have hj := jacB_len c
    by_cases c2 : (tmB p a cs && lastB cs) = true
    · rw [if_pos c2]
      simp only [Bool.and_eq_true] at c2
      have c3 := c2.1
      simp only [tmB, Bool.and_eq_true, decide_eq_true_eq] at c3
      have lS := sumP_le p a b cs cs.length
      have lM := mulP_le p (sumP p a b cs cs.length) [0, 1]
      simp only [List.length_cons, List.length_nil] at lM
      have lt : (timesL p a b cs).length ≤ cs.length + 1 := by unfold timesL; split <;> simp [tab_len]
      have ft : fine p (timesL p a b cs) := by
        unfold timesL
        split
        · exact fine_nil hp.1
        · intro i
          by_cases q : i < cs.length + 1
          · rw [tab_rd q]; exact mod_small hp _
          · rw [rdI_out (by rw [tab_len]; omega)]; omega
      have hb : polyB p (sumP p a b cs cs.length) = true := polyB_of (sumP_fine hp a b cs _) (sumP_trim ..) (by omega)
      refine ⟨sumP p a b cs cs.length, mulP p (sumP p a b cs cs.length) [0, 1], ⟨by omega, by omega⟩, ?_, ?_, up4 (run_implMulX p _ (jacB_primeB c) hp hb (by omega))⟩
      · have r := up4 (run_implSumBy p a b (timesL p a b cs) (by omega) (by omega) (by omega))
        have e : sumR p a b (timesL p a b cs) = (mulP p (sumP p a b cs cs.length) [0, 1], 0) := by
          unfold sumR
          rw [c, if_pos rfl, show listB p a (timesL p a b cs) = true by
            unfold listB
            rw [fine_hasB ft]
            simp; omega, if_pos rfl, times_sum hp]
        rw [e] at r
        exact r
      · have r := up4 (run_implSumBy p a b cs (by omega) (by omega) (by omega))
        have e : sumR p a b cs = (sumP p a b cs cs.length, 0) := by
          unfold sumR
          rw [c, if_pos rfl, show listB p a cs = true by
            unfold listB
            rw [c3.2]
            simp; omega, if_pos rfl]
        rw [e] at r
        exact r
    · rw [if_neg c2] at h; simp at h
theorem run_lawLinear (code : List Int) (h_code : code.length ≤ 9223372036854775807) (hb : ∀ z, z ∈ code → 0 ≤ z ∧ z ≤ 255) :
    runv E4 7 [.list code.length (code.map (V.int .u8))] = some ⟨true, .bool true, [.undef]⟩ := by
  have g0 := up4 (run_big code)
  by_cases hl : 4096 < (code.length : Int)
  · have cdk : codeOk Try.f7.ntmps (Try.f7.body.getD .skip) = true := by kernel_rfl
    refine run_of_WLr (E := E4) (fn := Try.f7) rfl Try.func7 rfl ⟨by simp [Try.ntmps7], by simp [wideA, ints], cdk, by simp [Try.f7]⟩ rfl (by simp [rebOk, noId, adoptT, adoptA, adoptL, adoptC, depth]) ?_
    simp [go_sem, -map_replicate, -map_set, -map_append, -map_reverse, -map_take, -map_drop, -map_tail, -any_map, -all_map, -mapM_map, -map_map, slL, szI, ldI, zI, undL, apL, setI, rdI_get, Nat.add_one_le_iff, fillV, zeros1, zeros0, appendD, segV, lvO, goneOf, sliceD, bound, Nat.add_assoc, E4_P, E4_m, E4_s, g0, hl]
    simp [mvcgen_simp, -map_replicate, -map_set, -map_append, -map_reverse, -map_take, -map_drop, -map_tail, -any_map, -all_map, -mapM_map, -map_map, Try.f7, E4_P]
  have hl' : code.length ≤ 4096 := by omega
  obtain ⟨p1, a1, b1, f1, k1, d1⟩ := run_DrawExpandBy code hb hl'
  have d1 := up4 d1
  have s1 := up4 (run_implExpandBy p1 a1 b1 f1 (by omega) (by omega) (by omega))
  have t1 := up4 (run_specExpandBy p1 a1 b1 f1 (by omega) (by omega) (by omega))
  have u1 := expR_len p1 a1 b1 f1 (by omega) (by omega) (by omega)
  have v1 := up4 (run_likeInts (expR p1 a1 b1 f1).1 u1)
  have A1 := @lin_exp p1 a1 b1 f1
  have A2 := @lin_exp_bad p1 a1 b1 f1
  obtain ⟨p2, a2, b2, f2, k2, d2⟩ := run_DrawSumBy code hb hl'
  have d2 := up4 d2
  have s2 := up4 (run_implSumBy p2 a2 b2 f2 (by omega) (by omega) (by omega))
  have t2 := up4 (run_specSumBy p2 a2 b2 f2 (by omega) (by omega) (by omega))
  have u2 := sumR_len p2 a2 b2 f2 (by omega) (by omega) (by omega)
  have v2 := up4 (run_likeInts (sumR p2 a2 b2 f2).1 u2)
  obtain ⟨p3, a3, b3, f3, e3, k3, d3⟩ := run_DrawValueBy code hb hl'
  have d3 := up4 d3
  have s3 := (run_implValueBy p3 a3 b3 f3 e3 (by omega) (by omega) (by omega))
  have t3 := up4 (run_specValueBy p3 a3 b3 f3 e3 (by omega) (by omega) (by omega))
  obtain ⟨p4, a4, b4, m4, n4, k4, d4⟩ := run_DrawExpandProduct code hb hl'
  have d4 := up4 d4
  have s4 := up4 (run_implExpandProduct p4 a4 b4 m4 n4 (by omega) (by omega))
  have t4 := up4 (run_specExpandProduct p4 a4 b4 m4 n4 (by omega) (by omega))
  have u4 := prdR_len p4 a4 b4 m4 n4 (by omega) (by omega)
  have v4 := up4 (run_likeInts (prdR p4 a4 b4 m4 n4).1 u4)
  have D1 := @lin_prd p4 a4 b4 m4 n4
  obtain ⟨p5, a5, b5, q5, c5, e5, m5, k5, d5⟩ := run_DrawConnectJacobi code hb hl'
  have d5 := up4 d5
  have s5 := up4 (run_implConnectJacobi p5 a5 b5 q5 c5 e5 m5 (by omega) (by omega) (by omega) (by omega))
  have t5 := up4 (run_specConnectJacobi p5 a5 b5 q5 c5 e5 m5 (by omega) (by omega) (by omega) (by omega))
  have u5 := conR_len p5 a5 b5 q5 c5 e5 m5 (by omega) (by omega) (by omega) (by omega)
  have v5 := up4 (run_likeInts (conR p5 a5 b5 q5 c5 e5 m5).1 u5)
  have C1 := @lin_con p5 a5 b5 q5 c5 e5 m5
  obtain ⟨p6, a6, b6, m6, k6, j6, d6⟩ := run_DrawExpandDerivative code hb hl'
  have d6 := up4 d6
  have s6 := up4 (run_implExpandDerivative p6 a6 b6 m6 (by omega) (by omega))
  have t6 := up4 (run_specExpandDerivative p6 a6 b6 m6 (by omega) (by omega))
  have u6 := drvR_len p6 a6 b6 m6 (by omega) (by omega)
  have v6 := up4 (run_likeInts (drvR p6 a6 b6 m6).1 u6)
  have F1 := @lin_drv p6 a6 b6 m6
  obtain ⟨p7, a7, b7, f7, k7, d7⟩ := run_DrawTimesX code hb hl'
  have d7 := up4 d7
  have s7 := up4 (run_implTimesX p7 a7 b7 f7 (by omega) (by omega) (by omega))
  have t7 := up4 (run_specTimesX p7 a7 b7 f7 (by omega) (by omega) (by omega))
  have u7 := timesR_len p7 a7 b7 f7 (by omega) (by omega) (by omega)
  have v7 := up4 (run_likeInts (timesR p7 a7 b7 f7).1 u7)
  have T1 := @lin_tim p7 a7 b7 f7
  generalize expR p1 a1 b1 f1 = r1 at *
  obtain ⟨y1, z1⟩ := r1
  generalize sumR p2 a2 b2 f2 = r2 at *
  obtain ⟨y2, z2⟩ := r2
  generalize valBR p3 a3 b3 f3 e3 = r3 at *
  obtain ⟨y3, z3⟩ := r3
  generalize prdR p4 a4 b4 m4 n4 = r4 at *
  obtain ⟨y4, z4⟩ := r4
  generalize conR p5 a5 b5 q5 c5 e5 m5 = r5 at *
  obtain ⟨y5, z5⟩ := r5
  generalize drvR p6 a6 b6 m6 = r6 at *
  obtain ⟨y6, z6⟩ := r6
  generalize timesR p7 a7 b7 f7 = r7 at *
  obtain ⟨y7, z7⟩ := r7
  simp only at *
  have cdk : codeOk Try.f7.ntmps (Try.f7.body.getD .skip) = true := by kernel_rfl
  refine run_of_WLr (E := E4) (fn := Try.f7) rfl Try.func7 rfl ⟨by simp [Try.ntmps7], by simp [wideA, ints], cdk, by simp [Try.f7]⟩ rfl (by simp [rebOk, noId, adoptT, adoptA, adoptL, adoptC, depth]) ?_
  simp (maxSteps := 10000000) [go_sem, -map_replicate, -map_set, -map_append, -map_reverse, -map_take, -map_drop, -map_tail, -any_map, -all_map, -mapM_map, -map_map, slL, szI, ldI, zI, undL, apL, setI, rdI_get, Nat.add_one_le_iff, fillV, zeros1, zeros0, appendD, segV, lvO, goneOf, sliceD, bound, Nat.add_assoc, E4_P, E4_m, E4_s, szL, ldL, setCs0, setCs1, setCs2, setCsA2, setCsA3, ldM, fM0, fM1, szM, zM, plM0, plM1, agM, paM, ldJ, fJ0, fJ1, fJ2, szJ, zJ, plJ0, plJ1, plJ2, agJ, paJ, g0, hl, d1, s1, t1, v1, d2, s2, t2, v2, d3, s3, t3, d4, s4, t4, v4, d5, s5, t5, v5, d6, s6, t6, v6, d7, s7, t7, v7]
  by_cases D : z4 = 0
  · obtain ⟨D2, D3, D4⟩ := D1 D
    subst D
    have x1 : IntKind.i64.wrap (y4.length : Int) = y4.length := IntWalk.i64_in _ (by omega)
    have x2 : IntKind.i64.wrap (m4 + n4) = m4 + n4 := IntWalk.i64_in _ (by omega)
    have x3 : IntKind.i64.wrap (m4 + n4 + 1) = m4 + n4 + 1 := IntWalk.i64_in _ (by omega)
    simp (maxSteps := 10000000) [go_sem, -map_replicate, -map_set, -map_append, -map_reverse, -map_take, -map_drop, -map_tail, -any_map, -all_map, -mapM_map, -map_map, slL, szI, ldI, zI, undL, apL, setI, rdI_get, Nat.add_one_le_iff, fillV, zeros1, zeros0, appendD, segV, lvO, goneOf, sliceD, bound, Nat.add_assoc, E4_P, E4_m, E4_s, szL, ldL, setCs0, setCs1, setCs2, setCsA2, setCsA3, ldM, fM0, fM1, szM, zM, plM0, plM1, agM, paM, ldJ, fJ0, fJ1, fJ2, szJ, zJ, plJ0, plJ1, plJ2, agJ, paJ, D3, D4, x1, x2, x3, v4, undI64, convD]
    by_cases C : z5 = 0
    · obtain ⟨C2, C3, C4⟩ := C1 C
      subst C
      have q5' := up4 (run_likeInts (pl p5 a5 b5 m5.toNat).1 (by omega))
      generalize (pl p5 a5 b5 m5.toNat).1 = P5 at *
      simp (maxSteps := 10000000) [go_sem, -map_replicate, -map_set, -map_append, -map_reverse, -map_take, -map_drop, -map_tail, -any_map, -all_map, -mapM_map, -map_map, slL, szI, ldI, zI, undL, apL, setI, rdI_get, Nat.add_one_le_iff, fillV, zeros1, zeros0, appendD, segV, lvO, goneOf, sliceD, bound, Nat.add_assoc, E4_P, E4_m, E4_s, szL, ldL, setCs0, setCs1, setCs2, setCsA2, setCsA3, ldM, fM0, fM1, szM, zM, plM0, plM1, agM, paM, ldJ, fJ0, fJ1, fJ2, szJ, zJ, plJ0, plJ1, plJ2, agJ, paJ, C3, C4, q5']
      by_cases F : z6 = 0
      · obtain ⟨P, D', F2, F3, F4, F5⟩ := F1 F
        subst F
        have q6 := up4 (run_likeInts D' (by omega))
        rcases F5 with F5 | ⟨F6, F5⟩
        · simp (maxSteps := 10000000) [go_sem, -map_replicate, -map_set, -map_append, -map_reverse, -map_take, -map_drop, -map_tail, -any_map, -all_map, -mapM_map, -map_map, slL, szI, ldI, zI, undL, apL, setI, rdI_get, Nat.add_one_le_iff, fillV, zeros1, zeros0, appendD, segV, lvO, goneOf, sliceD, bound, Nat.add_assoc, E4_P, E4_m, E4_s, szL, ldL, setCs0, setCs1, setCs2, setCsA2, setCsA3, ldM, fM0, fM1, szM, zM, plM0, plM1, agM, paM, ldJ, fJ0, fJ1, fJ2, szJ, zJ, plJ0, plJ1, plJ2, agJ, paJ, F3, F4, F5, q6]
          by_cases T : z7 = 0
          · obtain ⟨S, M, T2, T3, T4, T5⟩ := T1 T
            subst T
            have q7 := up4 (run_likeInts M (by omega))
            simp (maxSteps := 10000000) [go_sem, -map_replicate, -map_set, -map_append, -map_reverse, -map_take, -map_drop, -map_tail, -any_map, -all_map, -mapM_map, -map_map, slL, szI, ldI, zI, undL, apL, setI, rdI_get, Nat.add_one_le_iff, fillV, zeros1, zeros0, appendD, segV, lvO, goneOf, sliceD, bound, Nat.add_assoc, E4_P, E4_m, E4_s, szL, ldL, setCs0, setCs1, setCs2, setCsA2, setCsA3, ldM, fM0, fM1, szM, zM, plM0, plM1, agM, paM, ldJ, fJ0, fJ1, fJ2, szJ, zJ, plJ0, plJ1, plJ2, agJ, paJ, T3, T4, T5, q7, zerosV2, fillV]
            by_cases A : z1 = 0
            · obtain ⟨A3, A4⟩ := A1 A
              subst A
              have q1 := up4 (run_likeInts f1 (by omega))
              as_aux_lemma =>
                simp (maxSteps := 10000000) [go_sem, -map_replicate, -map_set, -map_append, -map_reverse, -map_take, -map_drop, -map_tail, -any_map, -all_map, -mapM_map, -map_map, slL, szI, ldI, zI, undL, apL, setI, rdI_get, Nat.add_one_le_iff, fillV, zeros1, zeros0, appendD, segV, lvO, goneOf, sliceD, bound, Nat.add_assoc, E4_P, E4_m, E4_s, szL, ldL, setCs0, setCs1, setCs2, setCsA2, setCsA3, ldM, fM0, fM1, szM, zM, plM0, plM1, agM, paM, ldJ, fJ0, fJ1, fJ2, szJ, zJ, plJ0, plJ1, plJ2, agJ, paJ, A4, q1]
                repeat refine ⟨by kernel_rfl, by kernel_rfl, ?_⟩
                simp [mvcgen_simp, -map_replicate, -map_set, -map_append, -map_reverse, -map_take, -map_drop, -map_tail, -any_map, -all_map, -mapM_map, -map_map, Try.f7, E4_P, szL, ldL, setCs0, setCs1, setCs2, setCsA2, setCsA3, ldM, fM0, fM1, szM, zM, plM0, plM1, agM, paM, ldJ, fJ0, fJ1, fJ2, szJ, zJ, plJ0, plJ1, plJ2, agJ, paJ, loadD, viewN]
            · have A3 := A2 A
              subst A3
              as_aux_lemma =>
                simp (maxSteps := 10000000) [go_sem, -map_replicate, -map_set, -map_append, -map_reverse, -map_take, -map_drop, -map_tail, -any_map, -all_map, -mapM_map, -map_map, slL, szI, ldI, zI, undL, apL, setI, rdI_get, Nat.add_one_le_iff, fillV, zeros1, zeros0, appendD, segV, lvO, goneOf, sliceD, bound, Nat.add_assoc, E4_P, E4_m, E4_s, szL, ldL, setCs0, setCs1, setCs2, setCsA2, setCsA3, ldM, fM0, fM1, szM, zM, plM0, plM1, agM, paM, ldJ, fJ0, fJ1, fJ2, szJ, zJ, plJ0, plJ1, plJ2, agJ, paJ, A]
                repeat refine ⟨by kernel_rfl, by kernel_rfl, ?_⟩
                simp [mvcgen_simp, -map_replicate, -map_set, -map_append, -map_reverse, -map_take, -map_drop, -map_tail, -any_map, -all_map, -mapM_map, -map_map, Try.f7, E4_P, szL, ldL, setCs0, setCs1, setCs2, setCsA2, setCsA3, ldM, fM0, fM1, szM, zM, plM0, plM1, agM, paM, ldJ, fJ0, fJ1, fJ2, szJ, zJ, plJ0, plJ1, plJ2, agJ, paJ, loadD, viewN]
          · simp (maxSteps := 10000000) [go_sem, -map_replicate, -map_set, -map_append, -map_reverse, -map_take, -map_drop, -map_tail, -any_map, -all_map, -mapM_map, -map_map, slL, szI, ldI, zI, undL, apL, setI, rdI_get, Nat.add_one_le_iff, fillV, zeros1, zeros0, appendD, segV, lvO, goneOf, sliceD, bound, Nat.add_assoc, E4_P, E4_m, E4_s, szL, ldL, setCs0, setCs1, setCs2, setCsA2, setCsA3, ldM, fM0, fM1, szM, zM, plM0, plM1, agM, paM, ldJ, fJ0, fJ1, fJ2, szJ, zJ, plJ0, plJ1, plJ2, agJ, paJ, T]
            by_cases A : z1 = 0
            · obtain ⟨A3, A4⟩ := A1 A
              subst A
              have q1 := up4 (run_likeInts f1 (by omega))
              as_aux_lemma =>
                simp (maxSteps := 10000000) [go_sem, -map_replicate, -map_set, -map_append, -map_reverse, -map_take, -map_drop, -map_tail, -any_map, -all_map, -mapM_map, -map_map, slL, szI, ldI, zI, undL, apL, setI, rdI_get, Nat.add_one_le_iff, fillV, zeros1, zeros0, appendD, segV, lvO, goneOf, sliceD, bound, Nat.add_assoc, E4_P, E4_m, E4_s, szL, ldL, setCs0, setCs1, setCs2, setCsA2, setCsA3, ldM, fM0, fM1, szM, zM, plM0, plM1, agM, paM, ldJ, fJ0, fJ1, fJ2, szJ, zJ, plJ0, plJ1, plJ2, agJ, paJ, A4, q1]
                repeat refine ⟨by kernel_rfl, by kernel_rfl, ?_⟩
                simp [mvcgen_simp, -map_replicate, -map_set, -map_append, -map_reverse, -map_take, -map_drop, -map_tail, -any_map, -all_map, -mapM_map, -map_map, Try.f7, E4_P, szL, ldL, setCs0, setCs1, setCs2, setCsA2, setCsA3, ldM, fM0, fM1, szM, zM, plM0, plM1, agM, paM, ldJ, fJ0, fJ1, fJ2, szJ, zJ, plJ0, plJ1, plJ2, agJ, paJ, loadD, viewN]
            · have A3 := A2 A
              subst A3
              as_aux_lemma =>
                simp (maxSteps := 10000000) [go_sem, -map_replicate, -map_set, -map_append, -map_reverse, -map_take, -map_drop, -map_tail, -any_map, -all_map, -mapM_map, -map_map, slL, szI, ldI, zI, undL, apL, setI, rdI_get, Nat.add_one_le_iff, fillV, zeros1, zeros0, appendD, segV, lvO, goneOf, sliceD, bound, Nat.add_assoc, E4_P, E4_m, E4_s, szL, ldL, setCs0, setCs1, setCs2, setCsA2, setCsA3, ldM, fM0, fM1, szM, zM, plM0, plM1, agM, paM, ldJ, fJ0, fJ1, fJ2, szJ, zJ, plJ0, plJ1, plJ2, agJ, paJ, A]
                repeat refine ⟨by kernel_rfl, by kernel_rfl, ?_⟩
                simp [mvcgen_simp, -map_replicate, -map_set, -map_append, -map_reverse, -map_take, -map_drop, -map_tail, -any_map, -all_map, -mapM_map, -map_map, Try.f7, E4_P, szL, ldL, setCs0, setCs1, setCs2, setCsA2, setCsA3, ldM, fM0, fM1, szM, zM, plM0, plM1, agM, paM, ldJ, fJ0, fJ1, fJ2, szJ, zJ, plJ0, plJ1, plJ2, agJ, paJ, loadD, viewN]
        · subst F6
          simp only [List.length_nil, List.map_nil] at q6 F3
          simp (maxSteps := 10000000) [go_sem, -map_replicate, -map_set, -map_append, -map_reverse, -map_take, -map_drop, -map_tail, -any_map, -all_map, -mapM_map, -map_map, slL, szI, ldI, zI, undL, apL, setI, rdI_get, Nat.add_one_le_iff, fillV, zeros1, zeros0, appendD, segV, lvO, goneOf, sliceD, bound, Nat.add_assoc, E4_P, E4_m, E4_s, szL, ldL, setCs0, setCs1, setCs2, setCsA2, setCsA3, ldM, fM0, fM1, szM, zM, plM0, plM1, agM, paM, ldJ, fJ0, fJ1, fJ2, szJ, zJ, plJ0, plJ1, plJ2, agJ, paJ, F3, F4, F5, q6]
          by_cases T : z7 = 0
          · obtain ⟨S, M, T2, T3, T4, T5⟩ := T1 T
            subst T
            have q7 := up4 (run_likeInts M (by omega))
            simp (maxSteps := 10000000) [go_sem, -map_replicate, -map_set, -map_append, -map_reverse, -map_take, -map_drop, -map_tail, -any_map, -all_map, -mapM_map, -map_map, slL, szI, ldI, zI, undL, apL, setI, rdI_get, Nat.add_one_le_iff, fillV, zeros1, zeros0, appendD, segV, lvO, goneOf, sliceD, bound, Nat.add_assoc, E4_P, E4_m, E4_s, szL, ldL, setCs0, setCs1, setCs2, setCsA2, setCsA3, ldM, fM0, fM1, szM, zM, plM0, plM1, agM, paM, ldJ, fJ0, fJ1, fJ2, szJ, zJ, plJ0, plJ1, plJ2, agJ, paJ, T3, T4, T5, q7, zerosV2, fillV]
            by_cases A : z1 = 0
            · obtain ⟨A3, A4⟩ := A1 A
              subst A
              have q1 := up4 (run_likeInts f1 (by omega))
              as_aux_lemma =>
                simp (maxSteps := 10000000) [go_sem, -map_replicate, -map_set, -map_append, -map_reverse, -map_take, -map_drop, -map_tail, -any_map, -all_map, -mapM_map, -map_map, slL, szI, ldI, zI, undL, apL, setI, rdI_get, Nat.add_one_le_iff, fillV, zeros1, zeros0, appendD, segV, lvO, goneOf, sliceD, bound, Nat.add_assoc, E4_P, E4_m, E4_s, szL, ldL, setCs0, setCs1, setCs2, setCsA2, setCsA3, ldM, fM0, fM1, szM, zM, plM0, plM1, agM, paM, ldJ, fJ0, fJ1, fJ2, szJ, zJ, plJ0, plJ1, plJ2, agJ, paJ, A4, q1]
                repeat refine ⟨by kernel_rfl, by kernel_rfl, ?_⟩
                simp [mvcgen_simp, -map_replicate, -map_set, -map_append, -map_reverse, -map_take, -map_drop, -map_tail, -any_map, -all_map, -mapM_map, -map_map, Try.f7, E4_P, szL, ldL, setCs0, setCs1, setCs2, setCsA2, setCsA3, ldM, fM0, fM1, szM, zM, plM0, plM1, agM, paM, ldJ, fJ0, fJ1, fJ2, szJ, zJ, plJ0, plJ1, plJ2, agJ, paJ, loadD, viewN]
            · have A3 := A2 A
              subst A3
              as_aux_lemma =>
                simp (maxSteps := 10000000) [go_sem, -map_replicate, -map_set, -map_append, -map_reverse, -map_take, -map_drop, -map_tail, -any_map, -all_map, -mapM_map, -map_map, slL, szI, ldI, zI, undL, apL, setI, rdI_get, Nat.add_one_le_iff, fillV, zeros1, zeros0, appendD, segV, lvO, goneOf, sliceD, bound, Nat.add_assoc, E4_P, E4_m, E4_s, szL, ldL, setCs0, setCs1, setCs2, setCsA2, setCsA3, ldM, fM0, fM1, szM, zM, plM0, plM1, agM, paM, ldJ, fJ0, fJ1, fJ2, szJ, zJ, plJ0, plJ1, plJ2, agJ, paJ, A]
                repeat refine ⟨by kernel_rfl, by kernel_rfl, ?_⟩
                simp [mvcgen_simp, -map_replicate, -map_set, -map_append, -map_reverse, -map_take, -map_drop, -map_tail, -any_map, -all_map, -mapM_map, -map_map, Try.f7, E4_P, szL, ldL, setCs0, setCs1, setCs2, setCsA2, setCsA3, ldM, fM0, fM1, szM, zM, plM0, plM1, agM, paM, ldJ, fJ0, fJ1, fJ2, szJ, zJ, plJ0, plJ1, plJ2, agJ, paJ, loadD, viewN]
          · simp (maxSteps := 10000000) [go_sem, -map_replicate, -map_set, -map_append, -map_reverse, -map_take, -map_drop, -map_tail, -any_map, -all_map, -mapM_map, -map_map, slL, szI, ldI, zI, undL, apL, setI, rdI_get, Nat.add_one_le_iff, fillV, zeros1, zeros0, appendD, segV, lvO, goneOf, sliceD, bound, Nat.add_assoc, E4_P, E4_m, E4_s, szL, ldL, setCs0, setCs1, setCs2, setCsA2, setCsA3, ldM, fM0, fM1, szM, zM, plM0, plM1, agM, paM, ldJ, fJ0, fJ1, fJ2, szJ, zJ, plJ0, plJ1, plJ2, agJ, paJ, T]
            by_cases A : z1 = 0
            · obtain ⟨A3, A4⟩ := A1 A
              subst A
              have q1 := up4 (run_likeInts f1 (by omega))
              as_aux_lemma =>
                simp (maxSteps := 10000000) [go_sem, -map_replicate, -map_set, -map_append, -map_reverse, -map_take, -map_drop, -map_tail, -any_map, -all_map, -mapM_map, -map_map, slL, szI, ldI, zI, undL, apL, setI, rdI_get, Nat.add_one_le_iff, fillV, zeros1, zeros0, appendD, segV, lvO, goneOf, sliceD, bound, Nat.add_assoc, E4_P, E4_m, E4_s, szL, ldL, setCs0, setCs1, setCs2, setCsA2, setCsA3, ldM, fM0, fM1, szM, zM, plM0, plM1, agM, paM, ldJ, fJ0, fJ1, fJ2, szJ, zJ, plJ0, plJ1, plJ2, agJ, paJ, A4, q1]
                repeat refine ⟨by kernel_rfl, by kernel_rfl, ?_⟩
                simp [mvcgen_simp, -map_replicate, -map_set, -map_append, -map_reverse, -map_take, -map_drop, -map_tail, -any_map, -all_map, -mapM_map, -map_map, Try.f7, E4_P, szL, ldL, setCs0, setCs1, setCs2, setCsA2, setCsA3, ldM, fM0, fM1, szM, zM, plM0, plM1, agM, paM, ldJ, fJ0, fJ1, fJ2, szJ, zJ, plJ0, plJ1, plJ2, agJ, paJ, loadD, viewN]
            · have A3 := A2 A
              subst A3
              as_aux_lemma =>
                simp (maxSteps := 10000000) [go_sem, -map_replicate, -map_set, -map_append, -map_reverse, -map_take, -map_drop, -map_tail, -any_map, -all_map, -mapM_map, -map_map, slL, szI, ldI, zI, undL, apL, setI, rdI_get, Nat.add_one_le_iff, fillV, zeros1, zeros0, appendD, segV, lvO, goneOf, sliceD, bound, Nat.add_assoc, E4_P, E4_m, E4_s, szL, ldL, setCs0, setCs1, setCs2, setCsA2, setCsA3, ldM, fM0, fM1, szM, zM, plM0, plM1, agM, paM, ldJ, fJ0, fJ1, fJ2, szJ, zJ, plJ0, plJ1, plJ2, agJ, paJ, A]
                repeat refine ⟨by kernel_rfl, by kernel_rfl, ?_⟩
                simp [mvcgen_simp, -map_replicate, -map_set, -map_append, -map_reverse, -map_take, -map_drop, -map_tail, -any_map, -all_map, -mapM_map, -map_map, Try.f7, E4_P, szL, ldL, setCs0, setCs1, setCs2, setCsA2, setCsA3, ldM, fM0, fM1, szM, zM, plM0, plM1, agM, paM, ldJ, fJ0, fJ1, fJ2, szJ, zJ, plJ0, plJ1, plJ2, agJ, paJ, loadD, viewN]
      · simp (maxSteps := 10000000) [go_sem, -map_replicate, -map_set, -map_append, -map_reverse, -map_take, -map_drop, -map_tail, -any_map, -all_map, -mapM_map, -map_map, slL, szI, ldI, zI, undL, apL, setI, rdI_get, Nat.add_one_le_iff, fillV, zeros1, zeros0, appendD, segV, lvO, goneOf, sliceD, bound, Nat.add_assoc, E4_P, E4_m, E4_s, szL, ldL, setCs0, setCs1, setCs2, setCsA2, setCsA3, ldM, fM0, fM1, szM, zM, plM0, plM1, agM, paM, ldJ, fJ0, fJ1, fJ2, szJ, zJ, plJ0, plJ1, plJ2, agJ, paJ, F]
        by_cases T : z7 = 0
        · obtain ⟨S, M, T2, T3, T4, T5⟩ := T1 T
          subst T
          have q7 := up4 (run_likeInts M (by omega))
          simp (maxSteps := 10000000) [go_sem, -map_replicate, -map_set, -map_append, -map_reverse, -map_take, -map_drop, -map_tail, -any_map, -all_map, -mapM_map, -map_map, slL, szI, ldI, zI, undL, apL, setI, rdI_get, Nat.add_one_le_iff, fillV, zeros1, zeros0, appendD, segV, lvO, goneOf, sliceD, bound, Nat.add_assoc, E4_P, E4_m, E4_s, szL, ldL, setCs0, setCs1, setCs2, setCsA2, setCsA3, ldM, fM0, fM1, szM, zM, plM0, plM1, agM, paM, ldJ, fJ0, fJ1, fJ2, szJ, zJ, plJ0, plJ1, plJ2, agJ, paJ, T3, T4, T5, q7, zerosV2, fillV]
          by_cases A : z1 = 0
          · obtain ⟨A3, A4⟩ := A1 A
            subst A
            have q1 := up4 (run_likeInts f1 (by omega))
            as_aux_lemma =>
              simp (maxSteps := 10000000) [go_sem, -map_replicate, -map_set, -map_append, -map_reverse, -map_take, -map_drop, -map_tail, -any_map, -all_map, -mapM_map, -map_map, slL, szI, ldI, zI, undL, apL, setI, rdI_get, Nat.add_one_le_iff, fillV, zeros1, zeros0, appendD, segV, lvO, goneOf, sliceD, bound, Nat.add_assoc, E4_P, E4_m, E4_s, szL, ldL, setCs0, setCs1, setCs2, setCsA2, setCsA3, ldM, fM0, fM1, szM, zM, plM0, plM1, agM, paM, ldJ, fJ0, fJ1, fJ2, szJ, zJ, plJ0, plJ1, plJ2, agJ, paJ, A4, q1]
              repeat refine ⟨by kernel_rfl, by kernel_rfl, ?_⟩
              simp [mvcgen_simp, -map_replicate, -map_set, -map_append, -map_reverse, -map_take, -map_drop, -map_tail, -any_map, -all_map, -mapM_map, -map_map, Try.f7, E4_P, szL, ldL, setCs0, setCs1, setCs2, setCsA2, setCsA3, ldM, fM0, fM1, szM, zM, plM0, plM1, agM, paM, ldJ, fJ0, fJ1, fJ2, szJ, zJ, plJ0, plJ1, plJ2, agJ, paJ, loadD, viewN]
          · have A3 := A2 A
            subst A3
            as_aux_lemma =>
              simp (maxSteps := 10000000) [go_sem, -map_replicate, -map_set, -map_append, -map_reverse, -map_take, -map_drop, -map_tail, -any_map, -all_map, -mapM_map, -map_map, slL, szI, ldI, zI, undL, apL, setI, rdI_get, Nat.add_one_le_iff, fillV, zeros1, zeros0, appendD, segV, lvO, goneOf, sliceD, bound, Nat.add_assoc, E4_P, E4_m, E4_s, szL, ldL, setCs0, setCs1, setCs2, setCsA2, setCsA3, ldM, fM0, fM1, szM, zM, plM0, plM1, agM, paM, ldJ, fJ0, fJ1, fJ2, szJ, zJ, plJ0, plJ1, plJ2, agJ, paJ, A]
              repeat refine ⟨by kernel_rfl, by kernel_rfl, ?_⟩
              simp [mvcgen_simp, -map_replicate, -map_set, -map_append, -map_reverse, -map_take, -map_drop, -map_tail, -any_map, -all_map, -mapM_map, -map_map, Try.f7, E4_P, szL, ldL, setCs0, setCs1, setCs2, setCsA2, setCsA3, ldM, fM0, fM1, szM, zM, plM0, plM1, agM, paM, ldJ, fJ0, fJ1, fJ2, szJ, zJ, plJ0, plJ1, plJ2, agJ, paJ, loadD, viewN]
        · simp (maxSteps := 10000000) [go_sem, -map_replicate, -map_set, -map_append, -map_reverse, -map_take, -map_drop, -map_tail, -any_map, -all_map, -mapM_map, -map_map, slL, szI, ldI, zI, undL, apL, setI, rdI_get, Nat.add_one_le_iff, fillV, zeros1, zeros0, appendD, segV, lvO, goneOf, sliceD, bound, Nat.add_assoc, E4_P, E4_m, E4_s, szL, ldL, setCs0, setCs1, setCs2, setCsA2, setCsA3, ldM, fM0, fM1, szM, zM, plM0, plM1, agM, paM, ldJ, fJ0, fJ1, fJ2, szJ, zJ, plJ0, plJ1, plJ2, agJ, paJ, T]
          by_cases A : z1 = 0
          · obtain ⟨A3, A4⟩ := A1 A
            subst A
            have q1 := up4 (run_likeInts f1 (by omega))
            as_aux_lemma =>
              simp (maxSteps := 10000000) [go_sem, -map_replicate, -map_set, -map_append, -map_reverse, -map_take, -map_drop, -map_tail, -any_map, -all_map, -mapM_map, -map_map, slL, szI, ldI, zI, undL, apL, setI, rdI_get, Nat.add_one_le_iff, fillV, zeros1, zeros0, appendD, segV, lvO, goneOf, sliceD, bound, Nat.add_assoc, E4_P, E4_m, E4_s, szL, ldL, setCs0, setCs1, setCs2, setCsA2, setCsA3, ldM, fM0, fM1, szM, zM, plM0, plM1, agM, paM, ldJ, fJ0, fJ1, fJ2, szJ, zJ, plJ0, plJ1, plJ2, agJ, paJ, A4, q1]
              repeat refine ⟨by kernel_rfl, by kernel_rfl, ?_⟩
              simp [mvcgen_simp, -map_replicate, -map_set, -map_append, -map_reverse, -map_take, -map_drop, -map_tail, -any_map, -all_map, -mapM_map, -map_map, Try.f7, E4_P, szL, ldL, setCs0, setCs1, setCs2, setCsA2, setCsA3, ldM, fM0, fM1, szM, zM, plM0, plM1, agM, paM, ldJ, fJ0, fJ1, fJ2, szJ, zJ, plJ0, plJ1, plJ2, agJ, paJ, loadD, viewN]
          · have A3 := A2 A
            subst A3
            as_aux_lemma =>
              simp (maxSteps := 10000000) [go_sem, -map_replicate, -map_set, -map_append, -map_reverse, -map_take, -map_drop, -map_tail, -any_map, -all_map, -mapM_map, -map_map, slL, szI, ldI, zI, undL, apL, setI, rdI_get, Nat.add_one_le_iff, fillV, zeros1, zeros0, appendD, segV, lvO, goneOf, sliceD, bound, Nat.add_assoc, E4_P, E4_m, E4_s, szL, ldL, setCs0, setCs1, setCs2, setCsA2, setCsA3, ldM, fM0, fM1, szM, zM, plM0, plM1, agM, paM, ldJ, fJ0, fJ1, fJ2, szJ, zJ, plJ0, plJ1, plJ2, agJ, paJ, A]
              repeat refine ⟨by kernel_rfl, by kernel_rfl, ?_⟩
              simp [mvcgen_simp, -map_replicate, -map_set, -map_append, -map_reverse, -map_take, -map_drop, -map_tail, -any_map, -all_map, -mapM_map, -map_map, Try.f7, E4_P, szL, ldL, setCs0, setCs1, setCs2, setCsA2, setCsA3, ldM, fM0, fM1, szM, zM, plM0, plM1, agM, paM, ldJ, fJ0, fJ1, fJ2, szJ, zJ, plJ0, plJ1, plJ2, agJ, paJ, loadD, viewN]
    · simp (maxSteps := 10000000) [go_sem, -map_replicate, -map_set, -map_append, -map_reverse, -map_take, -map_drop, -map_tail, -any_map, -all_map, -mapM_map, -map_map, slL, szI, ldI, zI, undL, apL, setI, rdI_get, Nat.add_one_le_iff, fillV, zeros1, zeros0, appendD, segV, lvO, goneOf, sliceD, bound, Nat.add_assoc, E4_P, E4_m, E4_s, szL, ldL, setCs0, setCs1, setCs2, setCsA2, setCsA3, ldM, fM0, fM1, szM, zM, plM0, plM1, agM, paM, ldJ, fJ0, fJ1, fJ2, szJ, zJ, plJ0, plJ1, plJ2, agJ, paJ, C]
      by_cases F : z6 = 0
      · obtain ⟨P, D', F2, F3, F4, F5⟩ := F1 F
        subst F
        have q6 := up4 (run_likeInts D' (by omega))
        rcases F5 with F5 | ⟨F6, F5⟩
        · simp (maxSteps := 10000000) [go_sem, -map_replicate, -map_set, -map_append, -map_reverse, -map_take, -map_drop, -map_tail, -any_map, -all_map, -mapM_map, -map_map, slL, szI, ldI, zI, undL, apL, setI, rdI_get, Nat.add_one_le_iff, fillV, zeros1, zeros0, appendD, segV, lvO, goneOf, sliceD, bound, Nat.add_assoc, E4_P, E4_m, E4_s, szL, ldL, setCs0, setCs1, setCs2, setCsA2, setCsA3, ldM, fM0, fM1, szM, zM, plM0, plM1, agM, paM, ldJ, fJ0, fJ1, fJ2, szJ, zJ, plJ0, plJ1, plJ2, agJ, paJ, F3, F4, F5, q6]
          by_cases T : z7 = 0
          · obtain ⟨S, M, T2, T3, T4, T5⟩ := T1 T
            subst T
            have q7 := up4 (run_likeInts M (by omega))
            simp (maxSteps := 10000000) [go_sem, -map_replicate, -map_set, -map_append, -map_reverse, -map_take, -map_drop, -map_tail, -any_map, -all_map, -mapM_map, -map_map, slL, szI, ldI, zI, undL, apL, setI, rdI_get, Nat.add_one_le_iff, fillV, zeros1, zeros0, appendD, segV, lvO, goneOf, sliceD, bound, Nat.add_assoc, E4_P, E4_m, E4_s, szL, ldL, setCs0, setCs1, setCs2, setCsA2, setCsA3, ldM, fM0, fM1, szM, zM, plM0, plM1, agM, paM, ldJ, fJ0, fJ1, fJ2, szJ, zJ, plJ0, plJ1, plJ2, agJ, paJ, T3, T4, T5, q7, zerosV2, fillV]
            by_cases A : z1 = 0
            · obtain ⟨A3, A4⟩ := A1 A
              subst A
              have q1 := up4 (run_likeInts f1 (by omega))
              as_aux_lemma =>
                simp (maxSteps := 10000000) [go_sem, -map_replicate, -map_set, -map_append, -map_reverse, -map_take, -map_drop, -map_tail, -any_map, -all_map, -mapM_map, -map_map, slL, szI, ldI, zI, undL, apL, setI, rdI_get, Nat.add_one_le_iff, fillV, zeros1, zeros0, appendD, segV, lvO, goneOf, sliceD, bound, Nat.add_assoc, E4_P, E4_m, E4_s, szL, ldL, setCs0, setCs1, setCs2, setCsA2, setCsA3, ldM, fM0, fM1, szM, zM, plM0, plM1, agM, paM, ldJ, fJ0, fJ1, fJ2, szJ, zJ, plJ0, plJ1, plJ2, agJ, paJ, A4, q1]
                repeat refine ⟨by kernel_rfl, by kernel_rfl, ?_⟩
                simp [mvcgen_simp, -map_replicate, -map_set, -map_append, -map_reverse, -map_take, -map_drop, -map_tail, -any_map, -all_map, -mapM_map, -map_map, Try.f7, E4_P, szL, ldL, setCs0, setCs1, setCs2, setCsA2, setCsA3, ldM, fM0, fM1, szM, zM, plM0, plM1, agM, paM, ldJ, fJ0, fJ1, fJ2, szJ, zJ, plJ0, plJ1, plJ2, agJ, paJ, loadD, viewN]
            · have A3 := A2 A
              subst A3
              as_aux_lemma =>
                simp (maxSteps := 10000000) [go_sem, -map_replicate, -map_set, -map_append, -map_reverse, -map_take, -map_drop, -map_tail, -any_map, -all_map, -mapM_map, -map_map, slL, szI, ldI, zI, undL, apL, setI, rdI_get, Nat.add_one_le_iff, fillV, zeros1, zeros0, appendD, segV, lvO, goneOf, sliceD, bound, Nat.add_assoc, E4_P, E4_m, E4_s, szL, ldL, setCs0, setCs1, setCs2, setCsA2, setCsA3, ldM, fM0, fM1, szM, zM, plM0, plM1, agM, paM, ldJ, fJ0, fJ1, fJ2, szJ, zJ, plJ0, plJ1, plJ2, agJ, paJ, A]
                repeat refine ⟨by kernel_rfl, by kernel_rfl, ?_⟩
                simp [mvcgen_simp, -map_replicate, -map_set, -map_append, -map_reverse, -map_take, -map_drop, -map_tail, -any_map, -all_map, -mapM_map, -map_map, Try.f7, E4_P, szL, ldL, setCs0, setCs1, setCs2, setCsA2, setCsA3, ldM, fM0, fM1, szM, zM, plM0, plM1, agM, paM, ldJ, fJ0, fJ1, fJ2, szJ, zJ, plJ0, plJ1, plJ2, agJ, paJ, loadD, viewN]
          · simp (maxSteps := 10000000) [go_sem, -map_replicate, -map_set, -map_append, -map_reverse, -map_take, -map_drop, -map_tail, -any_map, -all_map, -mapM_map, -map_map, slL, szI, ldI, zI, undL, apL, setI, rdI_get, Nat.add_one_le_iff, fillV, zeros1, zeros0, appendD, segV, lvO, goneOf, sliceD, bound, Nat.add_assoc, E4_P, E4_m, E4_s, szL, ldL, setCs0, setCs1, setCs2, setCsA2, setCsA3, ldM, fM0, fM1, szM, zM, plM0, plM1, agM, paM, ldJ, fJ0, fJ1, fJ2, szJ, zJ, plJ0, plJ1, plJ2, agJ, paJ, T]
            by_cases A : z1 = 0
            · obtain ⟨A3, A4⟩ := A1 A
              subst A
              have q1 := up4 (run_likeInts f1 (by omega))
              as_aux_lemma =>
                simp (maxSteps := 10000000) [go_sem, -map_replicate, -map_set, -map_append, -map_reverse, -map_take, -map_drop, -map_tail, -any_map, -all_map, -mapM_map, -map_map, slL, szI, ldI, zI, undL, apL, setI, rdI_get, Nat.add_one_le_iff, fillV, zeros1, zeros0, appendD, segV, lvO, goneOf, sliceD, bound, Nat.add_assoc, E4_P, E4_m, E4_s, szL, ldL, setCs0, setCs1, setCs2, setCsA2, setCsA3, ldM, fM0, fM1, szM, zM, plM0, plM1, agM, paM, ldJ, fJ0, fJ1, fJ2, szJ, zJ, plJ0, plJ1, plJ2, agJ, paJ, A4, q1]
                repeat refine ⟨by kernel_rfl, by kernel_rfl, ?_⟩
                simp [mvcgen_simp, -map_replicate, -map_set, -map_append, -map_reverse, -map_take, -map_drop, -map_tail, -any_map, -all_map, -mapM_map, -map_map, Try.f7, E4_P, szL, ldL, setCs0, setCs1, setCs2, setCsA2, setCsA3, ldM, fM0, fM1, szM, zM, plM0, plM1, agM, paM, ldJ, fJ0, fJ1, fJ2, szJ, zJ, plJ0, plJ1, plJ2, agJ, paJ, loadD, viewN]
            · have A3 := A2 A
              subst A3
              as_aux_lemma =>
                simp (maxSteps := 10000000) [go_sem, -map_replicate, -map_set, -map_append, -map_reverse, -map_take, -map_drop, -map_tail, -any_map, -all_map, -mapM_map, -map_map, slL, szI, ldI, zI, undL, apL, setI, rdI_get, Nat.add_one_le_iff, fillV, zeros1, zeros0, appendD, segV, lvO, goneOf, sliceD, bound, Nat.add_assoc, E4_P, E4_m, E4_s, szL, ldL, setCs0, setCs1, setCs2, setCsA2, setCsA3, ldM, fM0, fM1, szM, zM, plM0, plM1, agM, paM, ldJ, fJ0, fJ1, fJ2, szJ, zJ, plJ0, plJ1, plJ2, agJ, paJ, A]
                repeat refine ⟨by kernel_rfl, by kernel_rfl, ?_⟩
                simp [mvcgen_simp, -map_replicate, -map_set, -map_append, -map_reverse, -map_take, -map_drop, -map_tail, -any_map, -all_map, -mapM_map, -map_map, Try.f7, E4_P, szL, ldL, setCs0, setCs1, setCs2, setCsA2, setCsA3, ldM, fM0, fM1, szM, zM, plM0, plM1, agM, paM, ldJ, fJ0, fJ1, fJ2, szJ, zJ, plJ0, plJ1, plJ2, agJ, paJ, loadD, viewN]
        · subst F6
          simp only [List.length_nil, List.map_nil] at q6 F3
          simp (maxSteps := 10000000) [go_sem, -map_replicate, -map_set, -map_append, -map_reverse, -map_take, -map_drop, -map_tail, -any_map, -all_map, -mapM_map, -map_map, slL, szI, ldI, zI, undL, apL, setI, rdI_get, Nat.add_one_le_iff, fillV, zeros1, zeros0, appendD, segV, lvO, goneOf, sliceD, bound, Nat.add_assoc, E4_P, E4_m, E4_s, szL, ldL, setCs0, setCs1, setCs2, setCsA2, setCsA3, ldM, fM0, fM1, szM, zM, plM0, plM1, agM, paM, ldJ, fJ0, fJ1, fJ2, szJ, zJ, plJ0, plJ1, plJ2, agJ, paJ, F3, F4, F5, q6]
          by_cases T : z7 = 0
          · obtain ⟨S, M, T2, T3, T4, T5⟩ := T1 T
            subst T
            have q7 := up4 (run_likeInts M (by omega))
            simp (maxSteps := 10000000) [go_sem, -map_replicate, -map_set, -map_append, -map_reverse, -map_take, -map_drop, -map_tail, -any_map, -all_map, -mapM_map, -map_map, slL, szI, ldI, zI, undL, apL, setI, rdI_get, Nat.add_one_le_iff, fillV, zeros1, zeros0, appendD, segV, lvO, goneOf, sliceD, bound, Nat.add_assoc, E4_P, E4_m, E4_s, szL, ldL, setCs0, setCs1, setCs2, setCsA2, setCsA3, ldM, fM0, fM1, szM, zM, plM0, plM1, agM, paM, ldJ, fJ0, fJ1, fJ2, szJ, zJ, plJ0, plJ1, plJ2, agJ, paJ, T3, T4, T5, q7, zerosV2, fillV]
            by_cases A : z1 = 0
            · obtain ⟨A3, A4⟩ := A1 A
              subst A
              have q1 := up4 (run_likeInts f1 (by omega))
              as_aux_lemma =>
                simp (maxSteps := 10000000) [go_sem, -map_replicate, -map_set, -map_append, -map_reverse, -map_take, -map_drop, -map_tail, -any_map, -all_map, -mapM_map, -map_map, slL, szI, ldI, zI, undL, apL, setI, rdI_get, Nat.add_one_le_iff, fillV, zeros1, zeros0, appendD, segV, lvO, goneOf, sliceD, bound, Nat.add_assoc, E4_P, E4_m, E4_s, szL, ldL, setCs0, setCs1, setCs2, setCsA2, setCsA3, ldM, fM0, fM1, szM, zM, plM0, plM1, agM, paM, ldJ, fJ0, fJ1, fJ2, szJ, zJ, plJ0, plJ1, plJ2, agJ, paJ, A4, q1]
                repeat refine ⟨by kernel_rfl, by kernel_rfl, ?_⟩
                simp [mvcgen_simp, -map_replicate, -map_set, -map_append, -map_reverse, -map_take, -map_drop, -map_tail, -any_map, -all_map, -mapM_map, -map_map, Try.f7, E4_P, szL, ldL, setCs0, setCs1, setCs2, setCsA2, setCsA3, ldM, fM0, fM1, szM, zM, plM0, plM1, agM, paM, ldJ, fJ0, fJ1, fJ2, szJ, zJ, plJ0, plJ1, plJ2, agJ, paJ, loadD, viewN]
            · have A3 := A2 A
              subst A3
              as_aux_lemma =>
                simp (maxSteps := 10000000) [go_sem, -map_replicate, -map_set, -map_append, -map_reverse, -map_take, -map_drop, -map_tail, -any_map, -all_map, -mapM_map, -map_map, slL, szI, ldI, zI, undL, apL, setI, rdI_get, Nat.add_one_le_iff, fillV, zeros1, zeros0, appendD, segV, lvO, goneOf, sliceD, bound, Nat.add_assoc, E4_P, E4_m, E4_s, szL, ldL, setCs0, setCs1, setCs2, setCsA2, setCsA3, ldM, fM0, fM1, szM, zM, plM0, plM1, agM, paM, ldJ, fJ0, fJ1, fJ2, szJ, zJ, plJ0, plJ1, plJ2, agJ, paJ, A]
                repeat refine ⟨by kernel_rfl, by kernel_rfl, ?_⟩
                simp [mvcgen_simp, -map_replicate, -map_set, -map_append, -map_reverse, -map_take, -map_drop, -map_tail, -any_map, -all_map, -mapM_map, -map_map, Try.f7, E4_P, szL, ldL, setCs0, setCs1, setCs2, setCsA2, setCsA3, ldM, fM0, fM1, szM, zM, plM0, plM1, agM, paM, ldJ, fJ0, fJ1, fJ2, szJ, zJ, plJ0, plJ1, plJ2, agJ, paJ, loadD, viewN]
          · simp (maxSteps := 10000000) [go_sem, -map_replicate, -map_set, -map_append, -map_reverse, -map_take, -map_drop, -map_tail, -any_map, -all_map, -mapM_map, -map_map, slL, szI, ldI, zI, undL, apL, setI, rdI_get, Nat.add_one_le_iff, fillV, zeros1, zeros0, appendD, segV, lvO, goneOf, sliceD, bound, Nat.add_assoc, E4_P, E4_m, E4_s, szL, ldL, setCs0, setCs1, setCs2, setCsA2, setCsA3, ldM, fM0, fM1, szM, zM, plM0, plM1, agM, paM, ldJ, fJ0, fJ1, fJ2, szJ, zJ, plJ0, plJ1, plJ2, agJ, paJ, T]
            by_cases A : z1 = 0
            · obtain ⟨A3, A4⟩ := A1 A
              subst A
              have q1 := up4 (run_likeInts f1 (by omega))
              as_aux_lemma =>
                simp (maxSteps := 10000000) [go_sem, -map_replicate, -map_set, -map_append, -map_reverse, -map_take, -map_drop, -map_tail, -any_map, -all_map, -mapM_map, -map_map, slL, szI, ldI, zI, undL, apL, setI, rdI_get, Nat.add_one_le_iff, fillV, zeros1, zeros0, appendD, segV, lvO, goneOf, sliceD, bound, Nat.add_assoc, E4_P, E4_m, E4_s, szL, ldL, setCs0, setCs1, setCs2, setCsA2, setCsA3, ldM, fM0, fM1, szM, zM, plM0, plM1, agM, paM, ldJ, fJ0, fJ1, fJ2, szJ, zJ, plJ0, plJ1, plJ2, agJ, paJ, A4, q1]
                repeat refine ⟨by kernel_rfl, by kernel_rfl, ?_⟩
                simp [mvcgen_simp, -map_replicate, -map_set, -map_append, -map_reverse, -map_take, -map_drop, -map_tail, -any_map, -all_map, -mapM_map, -map_map, Try.f7, E4_P, szL, ldL, setCs0, setCs1, setCs2, setCsA2, setCsA3, ldM, fM0, fM1, szM, zM, plM0, plM1, agM, paM, ldJ, fJ0, fJ1, fJ2, szJ, zJ, plJ0, plJ1, plJ2, agJ, paJ, loadD, viewN]
            · have A3 := A2 A
              subst A3
              as_aux_lemma =>
                simp (maxSteps := 10000000) [go_sem, -map_replicate, -map_set, -map_append, -map_reverse, -map_take, -map_drop, -map_tail, -any_map, -all_map, -mapM_map, -map_map, slL, szI, ldI, zI, undL, apL, setI, rdI_get, Nat.add_one_le_iff, fillV, zeros1, zeros0, appendD, segV, lvO, goneOf, sliceD, bound, Nat.add_assoc, E4_P, E4_m, E4_s, szL, ldL, setCs0, setCs1, setCs2, setCsA2, setCsA3, ldM, fM0, fM1, szM, zM, plM0, plM1, agM, paM, ldJ, fJ0, fJ1, fJ2, szJ, zJ, plJ0, plJ1, plJ2, agJ, paJ, A]
                repeat refine ⟨by kernel_rfl, by kernel_rfl, ?_⟩
                simp [mvcgen_simp, -map_replicate, -map_set, -map_append, -map_reverse, -map_take, -map_drop, -map_tail, -any_map, -all_map, -mapM_map, -map_map, Try.f7, E4_P, szL, ldL, setCs0, setCs1, setCs2, setCsA2, setCsA3, ldM, fM0, fM1, szM, zM, plM0, plM1, agM, paM, ldJ, fJ0, fJ1, fJ2, szJ, zJ, plJ0, plJ1, plJ2, agJ, paJ, loadD, viewN]
      · simp (maxSteps := 10000000) [go_sem, -map_replicate, -map_set, -map_append, -map_reverse, -map_take, -map_drop, -map_tail, -any_map, -all_map, -mapM_map, -map_map, slL, szI, ldI, zI, undL, apL, setI, rdI_get, Nat.add_one_le_iff, fillV, zeros1, zeros0, appendD, segV, lvO, goneOf, sliceD, bound, Nat.add_assoc, E4_P, E4_m, E4_s, szL, ldL, setCs0, setCs1, setCs2, setCsA2, setCsA3, ldM, fM0, fM1, szM, zM, plM0, plM1, agM, paM, ldJ, fJ0, fJ1, fJ2, szJ, zJ, plJ0, plJ1, plJ2, agJ, paJ, F]
        by_cases T : z7 = 0
        · obtain ⟨S, M, T2, T3, T4, T5⟩ := T1 T
          subst T
          have q7 := up4 (run_likeInts M (by omega))
          simp (maxSteps := 10000000) [go_sem, -map_replicate, -map_set, -map_append, -map_reverse, -map_take, -map_drop, -map_tail, -any_map, -all_map, -mapM_map, -map_map, slL, szI, ldI, zI, undL, apL, setI, rdI_get, Nat.add_one_le_iff, fillV, zeros1, zeros0, appendD, segV, lvO, goneOf, sliceD, bound, Nat.add_assoc, E4_P, E4_m, E4_s, szL, ldL, setCs0, setCs1, setCs2, setCsA2, setCsA3, ldM, fM0, fM1, szM, zM, plM0, plM1, agM, paM, ldJ, fJ0, fJ1, fJ2, szJ, zJ, plJ0, plJ1, plJ2, agJ, paJ, T3, T4, T5, q7, zerosV2, fillV]
          by_cases A : z1 = 0
          · obtain ⟨A3, A4⟩ := A1 A
            subst A
            have q1 := up4 (run_likeInts f1 (by omega))
            as_aux_lemma =>
              simp (maxSteps := 10000000) [go_sem, -map_replicate, -map_set, -map_append, -map_reverse, -map_take, -map_drop, -map_tail, -any_map, -all_map, -mapM_map, -map_map, slL, szI, ldI, zI, undL, apL, setI, rdI_get, Nat.add_one_le_iff, fillV, zeros1, zeros0, appendD, segV, lvO, goneOf, sliceD, bound, Nat.add_assoc, E4_P, E4_m, E4_s, szL, ldL, setCs0, setCs1, setCs2, setCsA2, setCsA3, ldM, fM0, fM1, szM, zM, plM0, plM1, agM, paM, ldJ, fJ0, fJ1, fJ2, szJ, zJ, plJ0, plJ1, plJ2, agJ, paJ, A4, q1]
              repeat refine ⟨by kernel_rfl, by kernel_rfl, ?_⟩
              simp [mvcgen_simp, -map_replicate, -map_set, -map_append, -map_reverse, -map_take, -map_drop, -map_tail, -any_map, -all_map, -mapM_map, -map_map, Try.f7, E4_P, szL, ldL, setCs0, setCs1, setCs2, setCsA2, setCsA3, ldM, fM0, fM1, szM, zM, plM0, plM1, agM, paM, ldJ, fJ0, fJ1, fJ2, szJ, zJ, plJ0, plJ1, plJ2, agJ, paJ, loadD, viewN]
          · have A3 := A2 A
            subst A3
            as_aux_lemma =>
              simp (maxSteps := 10000000) [go_sem, -map_replicate, -map_set, -map_append, -map_reverse, -map_take, -map_drop, -map_tail, -any_map, -all_map, -mapM_map, -map_map, slL, szI, ldI, zI, undL, apL, setI, rdI_get, Nat.add_one_le_iff, fillV, zeros1, zeros0, appendD, segV, lvO, goneOf, sliceD, bound, Nat.add_assoc, E4_P, E4_m, E4_s, szL, ldL, setCs0, setCs1, setCs2, setCsA2, setCsA3, ldM, fM0, fM1, szM, zM, plM0, plM1, agM, paM, ldJ, fJ0, fJ1, fJ2, szJ, zJ, plJ0, plJ1, plJ2, agJ, paJ, A]
              repeat refine ⟨by kernel_rfl, by kernel_rfl, ?_⟩
              simp [mvcgen_simp, -map_replicate, -map_set, -map_append, -map_reverse, -map_take, -map_drop, -map_tail, -any_map, -all_map, -mapM_map, -map_map, Try.f7, E4_P, szL, ldL, setCs0, setCs1, setCs2, setCsA2, setCsA3, ldM, fM0, fM1, szM, zM, plM0, plM1, agM, paM, ldJ, fJ0, fJ1, fJ2, szJ, zJ, plJ0, plJ1, plJ2, agJ, paJ, loadD, viewN]
        · simp (maxSteps := 10000000) [go_sem, -map_replicate, -map_set, -map_append, -map_reverse, -map_take, -map_drop, -map_tail, -any_map, -all_map, -mapM_map, -map_map, slL, szI, ldI, zI, undL, apL, setI, rdI_get, Nat.add_one_le_iff, fillV, zeros1, zeros0, appendD, segV, lvO, goneOf, sliceD, bound, Nat.add_assoc, E4_P, E4_m, E4_s, szL, ldL, setCs0, setCs1, setCs2, setCsA2, setCsA3, ldM, fM0, fM1, szM, zM, plM0, plM1, agM, paM, ldJ, fJ0, fJ1, fJ2, szJ, zJ, plJ0, plJ1, plJ2, agJ, paJ, T]
          by_cases A : z1 = 0
          · obtain ⟨A3, A4⟩ := A1 A
            subst A
            have q1 := up4 (run_likeInts f1 (by omega))
            as_aux_lemma =>
              simp (maxSteps := 10000000) [go_sem, -map_replicate, -map_set, -map_append, -map_reverse, -map_take, -map_drop, -map_tail, -any_map, -all_map, -mapM_map, -map_map, slL, szI, ldI, zI, undL, apL, setI, rdI_get, Nat.add_one_le_iff, fillV, zeros1, zeros0, appendD, segV, lvO, goneOf, sliceD, bound, Nat.add_assoc, E4_P, E4_m, E4_s, szL, ldL, setCs0, setCs1, setCs2, setCsA2, setCsA3, ldM, fM0, fM1, szM, zM, plM0, plM1, agM, paM, ldJ, fJ0, fJ1, fJ2, szJ, zJ, plJ0, plJ1, plJ2, agJ, paJ, A4, q1]
              repeat refine ⟨by kernel_rfl, by kernel_rfl, ?_⟩
              simp [mvcgen_simp, -map_replicate, -map_set, -map_append, -map_reverse, -map_take, -map_drop, -map_tail, -any_map, -all_map, -mapM_map, -map_map, Try.f7, E4_P, szL, ldL, setCs0, setCs1, setCs2, setCsA2, setCsA3, ldM, fM0, fM1, szM, zM, plM0, plM1, agM, paM, ldJ, fJ0, fJ1, fJ2, szJ, zJ, plJ0, plJ1, plJ2, agJ, paJ, loadD, viewN]
          · have A3 := A2 A
            subst A3
            as_aux_lemma =>
              simp (maxSteps := 10000000) [go_sem, -map_replicate, -map_set, -map_append, -map_reverse, -map_take, -map_drop, -map_tail, -any_map, -all_map, -mapM_map, -map_map, slL, szI, ldI, zI, undL, apL, setI, rdI_get, Nat.add_one_le_iff, fillV, zeros1, zeros0, appendD, segV, lvO, goneOf, sliceD, bound, Nat.add_assoc, E4_P, E4_m, E4_s, szL, ldL, setCs0, setCs1, setCs2, setCsA2, setCsA3, ldM, fM0, fM1, szM, zM, plM0, plM1, agM, paM, ldJ, fJ0, fJ1, fJ2, szJ, zJ, plJ0, plJ1, plJ2, agJ, paJ, A]
              repeat refine ⟨by kernel_rfl, by kernel_rfl, ?_⟩
              simp [mvcgen_simp, -map_replicate, -map_set, -map_append, -map_reverse, -map_take, -map_drop, -map_tail, -any_map, -all_map, -mapM_map, -map_map, Try.f7, E4_P, szL, ldL, setCs0, setCs1, setCs2, setCsA2, setCsA3, ldM, fM0, fM1, szM, zM, plM0, plM1, agM, paM, ldJ, fJ0, fJ1, fJ2, szJ, zJ, plJ0, plJ1, plJ2, agJ, paJ, loadD, viewN]
  · simp (maxSteps := 10000000) [go_sem, -map_replicate, -map_set, -map_append, -map_reverse, -map_take, -map_drop, -map_tail, -any_map, -all_map, -mapM_map, -map_map, slL, szI, ldI, zI, undL, apL, setI, rdI_get, Nat.add_one_le_iff, fillV, zeros1, zeros0, appendD, segV, lvO, goneOf, sliceD, bound, Nat.add_assoc, E4_P, E4_m, E4_s, szL, ldL, setCs0, setCs1, setCs2, setCsA2, setCsA3, ldM, fM0, fM1, szM, zM, plM0, plM1, agM, paM, ldJ, fJ0, fJ1, fJ2, szJ, zJ, plJ0, plJ1, plJ2, agJ, paJ, D]
    by_cases C : z5 = 0
    · obtain ⟨C2, C3, C4⟩ := C1 C
      subst C
      have q5' := up4 (run_likeInts (pl p5 a5 b5 m5.toNat).1 (by omega))
      generalize (pl p5 a5 b5 m5.toNat).1 = P5 at *
      simp (maxSteps := 10000000) [go_sem, -map_replicate, -map_set, -map_append, -map_reverse, -map_take, -map_drop, -map_tail, -any_map, -all_map, -mapM_map, -map_map, slL, szI, ldI, zI, undL, apL, setI, rdI_get, Nat.add_one_le_iff, fillV, zeros1, zeros0, appendD, segV, lvO, goneOf, sliceD, bound, Nat.add_assoc, E4_P, E4_m, E4_s, szL, ldL, setCs0, setCs1, setCs2, setCsA2, setCsA3, ldM, fM0, fM1, szM, zM, plM0, plM1, agM, paM, ldJ, fJ0, fJ1, fJ2, szJ, zJ, plJ0, plJ1, plJ2, agJ, paJ, C3, C4, q5']
      by_cases F : z6 = 0
      · obtain ⟨P, D', F2, F3, F4, F5⟩ := F1 F
        subst F
        have q6 := up4 (run_likeInts D' (by omega))
        rcases F5 with F5 | ⟨F6, F5⟩
        · simp (maxSteps := 10000000) [go_sem, -map_replicate, -map_set, -map_append, -map_reverse, -map_take, -map_drop, -map_tail, -any_map, -all_map, -mapM_map, -map_map, slL, szI, ldI, zI, undL, apL, setI, rdI_get, Nat.add_one_le_iff, fillV, zeros1, zeros0, appendD, segV, lvO, goneOf, sliceD, bound, Nat.add_assoc, E4_P, E4_m, E4_s, szL, ldL, setCs0, setCs1, setCs2, setCsA2, setCsA3, ldM, fM0, fM1, szM, zM, plM0, plM1, agM, paM, ldJ, fJ0, fJ1, fJ2, szJ, zJ, plJ0, plJ1, plJ2, agJ, paJ, F3, F4, F5, q6]
          by_cases T : z7 = 0
          · obtain ⟨S, M, T2, T3, T4, T5⟩ := T1 T
            subst T
            have q7 := up4 (run_likeInts M (by omega))
            simp (maxSteps := 10000000) [go_sem, -map_replicate, -map_set, -map_append, -map_reverse, -map_take, -map_drop, -map_tail, -any_map, -all_map, -mapM_map, -map_map, slL, szI, ldI, zI, undL, apL, setI, rdI_get, Nat.add_one_le_iff, fillV, zeros1, zeros0, appendD, segV, lvO, goneOf, sliceD, bound, Nat.add_assoc, E4_P, E4_m, E4_s, szL, ldL, setCs0, setCs1, setCs2, setCsA2, setCsA3, ldM, fM0, fM1, szM, zM, plM0, plM1, agM, paM, ldJ, fJ0, fJ1, fJ2, szJ, zJ, plJ0, plJ1, plJ2, agJ, paJ, T3, T4, T5, q7, zerosV2, fillV]
            by_cases A : z1 = 0
            · obtain ⟨A3, A4⟩ := A1 A
              subst A
              have q1 := up4 (run_likeInts f1 (by omega))
              as_aux_lemma =>
                simp (maxSteps := 10000000) [go_sem, -map_replicate, -map_set, -map_append, -map_reverse, -map_take, -map_drop, -map_tail, -any_map, -all_map, -mapM_map, -map_map, slL, szI, ldI, zI, undL, apL, setI, rdI_get, Nat.add_one_le_iff, fillV, zeros1, zeros0, appendD, segV, lvO, goneOf, sliceD, bound, Nat.add_assoc, E4_P, E4_m, E4_s, szL, ldL, setCs0, setCs1, setCs2, setCsA2, setCsA3, ldM, fM0, fM1, szM, zM, plM0, plM1, agM, paM, ldJ, fJ0, fJ1, fJ2, szJ, zJ, plJ0, plJ1, plJ2, agJ, paJ, A4, q1]
                repeat refine ⟨by kernel_rfl, by kernel_rfl, ?_⟩
                simp [mvcgen_simp, -map_replicate, -map_set, -map_append, -map_reverse, -map_take, -map_drop, -map_tail, -any_map, -all_map, -mapM_map, -map_map, Try.f7, E4_P, szL, ldL, setCs0, setCs1, setCs2, setCsA2, setCsA3, ldM, fM0, fM1, szM, zM, plM0, plM1, agM, paM, ldJ, fJ0, fJ1, fJ2, szJ, zJ, plJ0, plJ1, plJ2, agJ, paJ, loadD, viewN]
            · have A3 := A2 A
              subst A3
              as_aux_lemma =>
                simp (maxSteps := 10000000) [go_sem, -map_replicate, -map_set, -map_append, -map_reverse, -map_take, -map_drop, -map_tail, -any_map, -all_map, -mapM_map, -map_map, slL, szI, ldI, zI, undL, apL, setI, rdI_get, Nat.add_one_le_iff, fillV, zeros1, zeros0, appendD, segV, lvO, goneOf, sliceD, bound, Nat.add_assoc, E4_P, E4_m, E4_s, szL, ldL, setCs0, setCs1, setCs2, setCsA2, setCsA3, ldM, fM0, fM1, szM, zM, plM0, plM1, agM, paM, ldJ, fJ0, fJ1, fJ2, szJ, zJ, plJ0, plJ1, plJ2, agJ, paJ, A]
                repeat refine ⟨by kernel_rfl, by kernel_rfl, ?_⟩
                simp [mvcgen_simp, -map_replicate, -map_set, -map_append, -map_reverse, -map_take, -map_drop, -map_tail, -any_map, -all_map, -mapM_map, -map_map, Try.f7, E4_P, szL, ldL, setCs0, setCs1, setCs2, setCsA2, setCsA3, ldM, fM0, fM1, szM, zM, plM0, plM1, agM, paM, ldJ, fJ0, fJ1, fJ2, szJ, zJ, plJ0, plJ1, plJ2, agJ, paJ, loadD, viewN]
          · simp (maxSteps := 10000000) [go_sem, -map_replicate, -map_set, -map_append, -map_reverse, -map_take, -map_drop, -map_tail, -any_map, -all_map, -mapM_map, -map_map, slL, szI, ldI, zI, undL, apL, setI, rdI_get, Nat.add_one_le_iff, fillV, zeros1, zeros0, appendD, segV, lvO, goneOf, sliceD, bound, Nat.add_assoc, E4_P, E4_m, E4_s, szL, ldL, setCs0, setCs1, setCs2, setCsA2, setCsA3, ldM, fM0, fM1, szM, zM, plM0, plM1, agM, paM, ldJ, fJ0, fJ1, fJ2, szJ, zJ, plJ0, plJ1, plJ2, agJ, paJ, T]
            by_cases A : z1 = 0
            · obtain ⟨A3, A4⟩ := A1 A
              subst A
              have q1 := up4 (run_likeInts f1 (by omega))
              as_aux_lemma =>
                simp (maxSteps := 10000000) [go_sem, -map_replicate, -map_set, -map_append, -map_reverse, -map_take, -map_drop, -map_tail, -any_map, -all_map, -mapM_map, -map_map, slL, szI, ldI, zI, undL, apL, setI, rdI_get, Nat.add_one_le_iff, fillV, zeros1, zeros0, appendD, segV, lvO, goneOf, sliceD, bound, Nat.add_assoc, E4_P, E4_m, E4_s, szL, ldL, setCs0, setCs1, setCs2, setCsA2, setCsA3, ldM, fM0, fM1, szM, zM, plM0, plM1, agM, paM, ldJ, fJ0, fJ1, fJ2, szJ, zJ, plJ0, plJ1, plJ2, agJ, paJ, A4, q1]
                repeat refine ⟨by kernel_rfl, by kernel_rfl, ?_⟩
                simp [mvcgen_simp, -map_replicate, -map_set, -map_append, -map_reverse, -map_take, -map_drop, -map_tail, -any_map, -all_map, -mapM_map, -map_map, Try.f7, E4_P, szL, ldL, setCs0, setCs1, setCs2, setCsA2, setCsA3, ldM, fM0, fM1, szM, zM, plM0, plM1, agM, paM, ldJ, fJ0, fJ1, fJ2, szJ, zJ, plJ0, plJ1, plJ2, agJ, paJ, loadD, viewN]
            · have A3 := A2 A
              subst A3
              as_aux_lemma =>
                simp (maxSteps := 10000000) [go_sem, -map_replicate, -map_set, -map_append, -map_reverse, -map_take, -map_drop, -map_tail, -any_map, -all_map, -mapM_map, -map_map, slL, szI, ldI, zI, undL, apL, setI, rdI_get, Nat.add_one_le_iff, fillV, zeros1, zeros0, appendD, segV, lvO, goneOf, sliceD, bound, Nat.add_assoc, E4_P, E4_m, E4_s, szL, ldL, setCs0, setCs1, setCs2, setCsA2, setCsA3, ldM, fM0, fM1, szM, zM, plM0, plM1, agM, paM, ldJ, fJ0, fJ1, fJ2, szJ, zJ, plJ0, plJ1, plJ2, agJ, paJ, A]
                repeat refine ⟨by kernel_rfl, by kernel_rfl, ?_⟩
                simp [mvcgen_simp, -map_replicate, -map_set, -map_append, -map_reverse, -map_take, -map_drop, -map_tail, -any_map, -all_map, -mapM_map, -map_map, Try.f7, E4_P, szL, ldL, setCs0, setCs1, setCs2, setCsA2, setCsA3, ldM, fM0, fM1, szM, zM, plM0, plM1, agM, paM, ldJ, fJ0, fJ1, fJ2, szJ, zJ, plJ0, plJ1, plJ2, agJ, paJ, loadD, viewN]
        · subst F6
          simp only [List.length_nil, List.map_nil] at q6 F3
          simp (maxSteps := 10000000) [go_sem, -map_replicate, -map_set, -map_append, -map_reverse, -map_take, -map_drop, -map_tail, -any_map, -all_map, -mapM_map, -map_map, slL, szI, ldI, zI, undL, apL, setI, rdI_get, Nat.add_one_le_iff, fillV, zeros1, zeros0, appendD, segV, lvO, goneOf, sliceD, bound, Nat.add_assoc, E4_P, E4_m, E4_s, szL, ldL, setCs0, setCs1, setCs2, setCsA2, setCsA3, ldM, fM0, fM1, szM, zM, plM0, plM1, agM, paM, ldJ, fJ0, fJ1, fJ2, szJ, zJ, plJ0, plJ1, plJ2, agJ, paJ, F3, F4, F5, q6]
          by_cases T : z7 = 0
          · obtain ⟨S, M, T2, T3, T4, T5⟩ := T1 T
            subst T
            have q7 := up4 (run_likeInts M (by omega))
            simp (maxSteps := 10000000) [go_sem, -map_replicate, -map_set, -map_append, -map_reverse, -map_take, -map_drop, -map_tail, -any_map, -all_map, -mapM_map, -map_map, slL, szI, ldI, zI, undL, apL, setI, rdI_get, Nat.add_one_le_iff, fillV, zeros1, zeros0, appendD, segV, lvO, goneOf, sliceD, bound, Nat.add_assoc, E4_P, E4_m, E4_s, szL, ldL, setCs0, setCs1, setCs2, setCsA2, setCsA3, ldM, fM0, fM1, szM, zM, plM0, plM1, agM, paM, ldJ, fJ0, fJ1, fJ2, szJ, zJ, plJ0, plJ1, plJ2, agJ, paJ, T3, T4, T5, q7, zerosV2, fillV]
            by_cases A : z1 = 0
            · obtain ⟨A3, A4⟩ := A1 A
              subst A
              have q1 := up4 (run_likeInts f1 (by omega))
              as_aux_lemma =>
                simp (maxSteps := 10000000) [go_sem, -map_replicate, -map_set, -map_append, -map_reverse, -map_take, -map_drop, -map_tail, -any_map, -all_map, -mapM_map, -map_map, slL, szI, ldI, zI, undL, apL, setI, rdI_get, Nat.add_one_le_iff, fillV, zeros1, zeros0, appendD, segV, lvO, goneOf, sliceD, bound, Nat.add_assoc, E4_P, E4_m, E4_s, szL, ldL, setCs0, setCs1, setCs2, setCsA2, setCsA3, ldM, fM0, fM1, szM, zM, plM0, plM1, agM, paM, ldJ, fJ0, fJ1, fJ2, szJ, zJ, plJ0, plJ1, plJ2, agJ, paJ, A4, q1]
                repeat refine ⟨by kernel_rfl, by kernel_rfl, ?_⟩
                simp [mvcgen_simp, -map_replicate, -map_set, -map_append, -map_reverse, -map_take, -map_drop, -map_tail, -any_map, -all_map, -mapM_map, -map_map, Try.f7, E4_P, szL, ldL, setCs0, setCs1, setCs2, setCsA2, setCsA3, ldM, fM0, fM1, szM, zM, plM0, plM1, agM, paM, ldJ, fJ0, fJ1, fJ2, szJ, zJ, plJ0, plJ1, plJ2, agJ, paJ, loadD, viewN]
            · have A3 := A2 A
              subst A3
              as_aux_lemma =>
                simp (maxSteps := 10000000) [go_sem, -map_replicate, -map_set, -map_append, -map_reverse, -map_take, -map_drop, -map_tail, -any_map, -all_map, -mapM_map, -map_map, slL, szI, ldI, zI, undL, apL, setI, rdI_get, Nat.add_one_le_iff, fillV, zeros1, zeros0, appendD, segV, lvO, goneOf, sliceD, bound, Nat.add_assoc, E4_P, E4_m, E4_s, szL, ldL, setCs0, setCs1, setCs2, setCsA2, setCsA3, ldM, fM0, fM1, szM, zM, plM0, plM1, agM, paM, ldJ, fJ0, fJ1, fJ2, szJ, zJ, plJ0, plJ1, plJ2, agJ, paJ, A]
                repeat refine ⟨by kernel_rfl, by kernel_rfl, ?_⟩
                simp [mvcgen_simp, -map_replicate, -map_set, -map_append, -map_reverse, -map_take, -map_drop, -map_tail, -any_map, -all_map, -mapM_map, -map_map, Try.f7, E4_P, szL, ldL, setCs0, setCs1, setCs2, setCsA2, setCsA3, ldM, fM0, fM1, szM, zM, plM0, plM1, agM, paM, ldJ, fJ0, fJ1, fJ2, szJ, zJ, plJ0, plJ1, plJ2, agJ, paJ, loadD, viewN]
          · simp (maxSteps := 10000000) [go_sem, -map_replicate, -map_set, -map_append, -map_reverse, -map_take, -map_drop, -map_tail, -any_map, -all_map, -mapM_map, -map_map, slL, szI, ldI, zI, undL, apL, setI, rdI_get, Nat.add_one_le_iff, fillV, zeros1, zeros0, appendD, segV, lvO, goneOf, sliceD, bound, Nat.add_assoc, E4_P, E4_m, E4_s, szL, ldL, setCs0, setCs1, setCs2, setCsA2, setCsA3, ldM, fM0, fM1, szM, zM, plM0, plM1, agM, paM, ldJ, fJ0, fJ1, fJ2, szJ, zJ, plJ0, plJ1, plJ2, agJ, paJ, T]
            by_cases A : z1 = 0
            · obtain ⟨A3, A4⟩ := A1 A
              subst A
              have q1 := up4 (run_likeInts f1 (by omega))
              as_aux_lemma =>
                simp (maxSteps := 10000000) [go_sem, -map_replicate, -map_set, -map_append, -map_reverse, -map_take, -map_drop, -map_tail, -any_map, -all_map, -mapM_map, -map_map, slL, szI, ldI, zI, undL, apL, setI, rdI_get, Nat.add_one_le_iff, fillV, zeros1, zeros0, appendD, segV, lvO, goneOf, sliceD, bound, Nat.add_assoc, E4_P, E4_m, E4_s, szL, ldL, setCs0, setCs1, setCs2, setCsA2, setCsA3, ldM, fM0, fM1, szM, zM, plM0, plM1, agM, paM, ldJ, fJ0, fJ1, fJ2, szJ, zJ, plJ0, plJ1, plJ2, agJ, paJ, A4, q1]
                repeat refine ⟨by kernel_rfl, by kernel_rfl, ?_⟩
                simp [mvcgen_simp, -map_replicate, -map_set, -map_append, -map_reverse, -map_take, -map_drop, -map_tail, -any_map, -all_map, -mapM_map, -map_map, Try.f7, E4_P, szL, ldL, setCs0, setCs1, setCs2, setCsA2, setCsA3, ldM, fM0, fM1, szM, zM, plM0, plM1, agM, paM, ldJ, fJ0, fJ1, fJ2, szJ, zJ, plJ0, plJ1, plJ2, agJ, paJ, loadD, viewN]
            · have A3 := A2 A
              subst A3
              as_aux_lemma =>
                simp (maxSteps := 10000000) [go_sem, -map_replicate, -map_set, -map_append, -map_reverse, -map_take, -map_drop, -map_tail, -any_map, -all_map, -mapM_map, -map_map, slL, szI, ldI, zI, undL, apL, setI, rdI_get, Nat.add_one_le_iff, fillV, zeros1, zeros0, appendD, segV, lvO, goneOf, sliceD, bound, Nat.add_assoc, E4_P, E4_m, E4_s, szL, ldL, setCs0, setCs1, setCs2, setCsA2, setCsA3, ldM, fM0, fM1, szM, zM, plM0, plM1, agM, paM, ldJ, fJ0, fJ1, fJ2, szJ, zJ, plJ0, plJ1, plJ2, agJ, paJ, A]
                repeat refine ⟨by kernel_rfl, by kernel_rfl, ?_⟩
                simp [mvcgen_simp, -map_replicate, -map_set, -map_append, -map_reverse, -map_take, -map_drop, -map_tail, -any_map, -all_map, -mapM_map, -map_map, Try.f7, E4_P, szL, ldL, setCs0, setCs1, setCs2, setCsA2, setCsA3, ldM, fM0, fM1, szM, zM, plM0, plM1, agM, paM, ldJ, fJ0, fJ1, fJ2, szJ, zJ, plJ0, plJ1, plJ2, agJ, paJ, loadD, viewN]
      · simp (maxSteps := 10000000) [go_sem, -map_replicate, -map_set, -map_append, -map_reverse, -map_take, -map_drop, -map_tail, -any_map, -all_map, -mapM_map, -map_map, slL, szI, ldI, zI, undL, apL, setI, rdI_get, Nat.add_one_le_iff, fillV, zeros1, zeros0, appendD, segV, lvO, goneOf, sliceD, bound, Nat.add_assoc, E4_P, E4_m, E4_s, szL, ldL, setCs0, setCs1, setCs2, setCsA2, setCsA3, ldM, fM0, fM1, szM, zM, plM0, plM1, agM, paM, ldJ, fJ0, fJ1, fJ2, szJ, zJ, plJ0, plJ1, plJ2, agJ, paJ, F]
        by_cases T : z7 = 0
        · obtain ⟨S, M, T2, T3, T4, T5⟩ := T1 T
          subst T
          have q7 := up4 (run_likeInts M (by omega))
          simp (maxSteps := 10000000) [go_sem, -map_replicate, -map_set, -map_append, -map_reverse, -map_take, -map_drop, -map_tail, -any_map, -all_map, -mapM_map, -map_map, slL, szI, ldI, zI, undL, apL, setI, rdI_get, Nat.add_one_le_iff, fillV, zeros1, zeros0, appendD, segV, lvO, goneOf, sliceD, bound, Nat.add_assoc, E4_P, E4_m, E4_s, szL, ldL, setCs0, setCs1, setCs2, setCsA2, setCsA3, ldM, fM0, fM1, szM, zM, plM0, plM1, agM, paM, ldJ, fJ0, fJ1, fJ2, szJ, zJ, plJ0, plJ1, plJ2, agJ, paJ, T3, T4, T5, q7, zerosV2, fillV]
          by_cases A : z1 = 0
          · obtain ⟨A3, A4⟩ := A1 A
            subst A
            have q1 := up4 (run_likeInts f1 (by omega))
            as_aux_lemma =>
              simp (maxSteps := 10000000) [go_sem, -map_replicate, -map_set, -map_append, -map_reverse, -map_take, -map_drop, -map_tail, -any_map, -all_map, -mapM_map, -map_map, slL, szI, ldI, zI, undL, apL, setI, rdI_get, Nat.add_one_le_iff, fillV, zeros1, zeros0, appendD, segV, lvO, goneOf, sliceD, bound, Nat.add_assoc, E4_P, E4_m, E4_s, szL, ldL, setCs0, setCs1, setCs2, setCsA2, setCsA3, ldM, fM0, fM1, szM, zM, plM0, plM1, agM, paM, ldJ, fJ0, fJ1, fJ2, szJ, zJ, plJ0, plJ1, plJ2, agJ, paJ, A4, q1]
              repeat refine ⟨by kernel_rfl, by kernel_rfl, ?_⟩
              simp [mvcgen_simp, -map_replicate, -map_set, -map_append, -map_reverse, -map_take, -map_drop, -map_tail, -any_map, -all_map, -mapM_map, -map_map, Try.f7, E4_P, szL, ldL, setCs0, setCs1, setCs2, setCsA2, setCsA3, ldM, fM0, fM1, szM, zM, plM0, plM1, agM, paM, ldJ, fJ0, fJ1, fJ2, szJ, zJ, plJ0, plJ1, plJ2, agJ, paJ, loadD, viewN]
          · have A3 := A2 A
            subst A3
            as_aux_lemma =>
              simp (maxSteps := 10000000) [go_sem, -map_replicate, -map_set, -map_append, -map_reverse, -map_take, -map_drop, -map_tail, -any_map, -all_map, -mapM_map, -map_map, slL, szI, ldI, zI, undL, apL, setI, rdI_get, Nat.add_one_le_iff, fillV, zeros1, zeros0, appendD, segV, lvO, goneOf, sliceD, bound, Nat.add_assoc, E4_P, E4_m, E4_s, szL, ldL, setCs0, setCs1, setCs2, setCsA2, setCsA3, ldM, fM0, fM1, szM, zM, plM0, plM1, agM, paM, ldJ, fJ0, fJ1, fJ2, szJ, zJ, plJ0, plJ1, plJ2, agJ, paJ, A]
              repeat refine ⟨by kernel_rfl, by kernel_rfl, ?_⟩
              simp [mvcgen_simp, -map_replicate, -map_set, -map_append, -map_reverse, -map_take, -map_drop, -map_tail, -any_map, -all_map, -mapM_map, -map_map, Try.f7, E4_P, szL, ldL, setCs0, setCs1, setCs2, setCsA2, setCsA3, ldM, fM0, fM1, szM, zM, plM0, plM1, agM, paM, ldJ, fJ0, fJ1, fJ2, szJ, zJ, plJ0, plJ1, plJ2, agJ, paJ, loadD, viewN]
        · simp (maxSteps := 10000000) [go_sem, -map_replicate, -map_set, -map_append, -map_reverse, -map_take, -map_drop, -map_tail, -any_map, -all_map, -mapM_map, -map_map, slL, szI, ldI, zI, undL, apL, setI, rdI_get, Nat.add_one_le_iff, fillV, zeros1, zeros0, appendD, segV, lvO, goneOf, sliceD, bound, Nat.add_assoc, E4_P, E4_m, E4_s, szL, ldL, setCs0, setCs1, setCs2, setCsA2, setCsA3, ldM, fM0, fM1, szM, zM, plM0, plM1, agM, paM, ldJ, fJ0, fJ1, fJ2, szJ, zJ, plJ0, plJ1, plJ2, agJ, paJ, T]
          by_cases A : z1 = 0
          · obtain ⟨A3, A4⟩ := A1 A
            subst A
            have q1 := up4 (run_likeInts f1 (by omega))
            as_aux_lemma =>
              simp (maxSteps := 10000000) [go_sem, -map_replicate, -map_set, -map_append, -map_reverse, -map_take, -map_drop, -map_tail, -any_map, -all_map, -mapM_map, -map_map, slL, szI, ldI, zI, undL, apL, setI, rdI_get, Nat.add_one_le_iff, fillV, zeros1, zeros0, appendD, segV, lvO, goneOf, sliceD, bound, Nat.add_assoc, E4_P, E4_m, E4_s, szL, ldL, setCs0, setCs1, setCs2, setCsA2, setCsA3, ldM, fM0, fM1, szM, zM, plM0, plM1, agM, paM, ldJ, fJ0, fJ1, fJ2, szJ, zJ, plJ0, plJ1, plJ2, agJ, paJ, A4, q1]
              repeat refine ⟨by kernel_rfl, by kernel_rfl, ?_⟩
              simp [mvcgen_simp, -map_replicate, -map_set, -map_append, -map_reverse, -map_take, -map_drop, -map_tail, -any_map, -all_map, -mapM_map, -map_map, Try.f7, E4_P, szL, ldL, setCs0, setCs1, setCs2, setCsA2, setCsA3, ldM, fM0, fM1, szM, zM, plM0, plM1, agM, paM, ldJ, fJ0, fJ1, fJ2, szJ, zJ, plJ0, plJ1, plJ2, agJ, paJ, loadD, viewN]
          · have A3 := A2 A
            subst A3
            as_aux_lemma =>
              simp (maxSteps := 10000000) [go_sem, -map_replicate, -map_set, -map_append, -map_reverse, -map_take, -map_drop, -map_tail, -any_map, -all_map, -mapM_map, -map_map, slL, szI, ldI, zI, undL, apL, setI, rdI_get, Nat.add_one_le_iff, fillV, zeros1, zeros0, appendD, segV, lvO, goneOf, sliceD, bound, Nat.add_assoc, E4_P, E4_m, E4_s, szL, ldL, setCs0, setCs1, setCs2, setCsA2, setCsA3, ldM, fM0, fM1, szM, zM, plM0, plM1, agM, paM, ldJ, fJ0, fJ1, fJ2, szJ, zJ, plJ0, plJ1, plJ2, agJ, paJ, A]
              repeat refine ⟨by kernel_rfl, by kernel_rfl, ?_⟩
              simp [mvcgen_simp, -map_replicate, -map_set, -map_append, -map_reverse, -map_take, -map_drop, -map_tail, -any_map, -all_map, -mapM_map, -map_map, Try.f7, E4_P, szL, ldL, setCs0, setCs1, setCs2, setCsA2, setCsA3, ldM, fM0, fM1, szM, zM, plM0, plM1, agM, paM, ldJ, fJ0, fJ1, fJ2, szJ, zJ, plJ0, plJ1, plJ2, agJ, paJ, loadD, viewN]
    · simp (maxSteps := 10000000) [go_sem, -map_replicate, -map_set, -map_append, -map_reverse, -map_take, -map_drop, -map_tail, -any_map, -all_map, -mapM_map, -map_map, slL, szI, ldI, zI, undL, apL, setI, rdI_get, Nat.add_one_le_iff, fillV, zeros1, zeros0, appendD, segV, lvO, goneOf, sliceD, bound, Nat.add_assoc, E4_P, E4_m, E4_s, szL, ldL, setCs0, setCs1, setCs2, setCsA2, setCsA3, ldM, fM0, fM1, szM, zM, plM0, plM1, agM, paM, ldJ, fJ0, fJ1, fJ2, szJ, zJ, plJ0, plJ1, plJ2, agJ, paJ, C]
      by_cases F : z6 = 0
      · obtain ⟨P, D', F2, F3, F4, F5⟩ := F1 F
        subst F
        have q6 := up4 (run_likeInts D' (by omega))
        rcases F5 with F5 | ⟨F6, F5⟩
        · simp (maxSteps := 10000000) [go_sem, -map_replicate, -map_set, -map_append, -map_reverse, -map_take, -map_drop, -map_tail, -any_map, -all_map, -mapM_map, -map_map, slL, szI, ldI, zI, undL, apL, setI, rdI_get, Nat.add_one_le_iff, fillV, zeros1, zeros0, appendD, segV, lvO, goneOf, sliceD, bound, Nat.add_assoc, E4_P, E4_m, E4_s, szL, ldL, setCs0, setCs1, setCs2, setCsA2, setCsA3, ldM, fM0, fM1, szM, zM, plM0, plM1, agM, paM, ldJ, fJ0, fJ1, fJ2, szJ, zJ, plJ0, plJ1, plJ2, agJ, paJ, F3, F4, F5, q6]
          by_cases T : z7 = 0
          · obtain ⟨S, M, T2, T3, T4, T5⟩ := T1 T
            subst T
            have q7 := up4 (run_likeInts M (by omega))
            simp (maxSteps := 10000000) [go_sem, -map_replicate, -map_set, -map_append, -map_reverse, -map_take, -map_drop, -map_tail, -any_map, -all_map, -mapM_map, -map_map, slL, szI, ldI, zI, undL, apL, setI, rdI_get, Nat.add_one_le_iff, fillV, zeros1, zeros0, appendD, segV, lvO, goneOf, sliceD, bound, Nat.add_assoc, E4_P, E4_m, E4_s, szL, ldL, setCs0, setCs1, setCs2, setCsA2, setCsA3, ldM, fM0, fM1, szM, zM, plM0, plM1, agM, paM, ldJ, fJ0, fJ1, fJ2, szJ, zJ, plJ0, plJ1, plJ2, agJ, paJ, T3, T4, T5, q7, zerosV2, fillV]
            by_cases A : z1 = 0
            · obtain ⟨A3, A4⟩ := A1 A
              subst A
              have q1 := up4 (run_likeInts f1 (by omega))
              as_aux_lemma =>
                simp (maxSteps := 10000000) [go_sem, -map_replicate, -map_set, -map_append, -map_reverse, -map_take, -map_drop, -map_tail, -any_map, -all_map, -mapM_map, -map_map, slL, szI, ldI, zI, undL, apL, setI, rdI_get, Nat.add_one_le_iff, fillV, zeros1, zeros0, appendD, segV, lvO, goneOf, sliceD, bound, Nat.add_assoc, E4_P, E4_m, E4_s, szL, ldL, setCs0, setCs1, setCs2, setCsA2, setCsA3, ldM, fM0, fM1, szM, zM, plM0, plM1, agM, paM, ldJ, fJ0, fJ1, fJ2, szJ, zJ, plJ0, plJ1, plJ2, agJ, paJ, A4, q1]
                repeat refine ⟨by kernel_rfl, by kernel_rfl, ?_⟩
                simp [mvcgen_simp, -map_replicate, -map_set, -map_append, -map_reverse, -map_take, -map_drop, -map_tail, -any_map, -all_map, -mapM_map, -map_map, Try.f7, E4_P, szL, ldL, setCs0, setCs1, setCs2, setCsA2, setCsA3, ldM, fM0, fM1, szM, zM, plM0, plM1, agM, paM, ldJ, fJ0, fJ1, fJ2, szJ, zJ, plJ0, plJ1, plJ2, agJ, paJ, loadD, viewN]
            · have A3 := A2 A
              subst A3
              as_aux_lemma =>
                simp (maxSteps := 10000000) [go_sem, -map_replicate, -map_set, -map_append, -map_reverse, -map_take, -map_drop, -map_tail, -any_map, -all_map, -mapM_map, -map_map, slL, szI, ldI, zI, undL, apL, setI, rdI_get, Nat.add_one_le_iff, fillV, zeros1, zeros0, appendD, segV, lvO, goneOf, sliceD, bound, Nat.add_assoc, E4_P, E4_m, E4_s, szL, ldL, setCs0, setCs1, setCs2, setCsA2, setCsA3, ldM, fM0, fM1, szM, zM, plM0, plM1, agM, paM, ldJ, fJ0, fJ1, fJ2, szJ, zJ, plJ0, plJ1, plJ2, agJ, paJ, A]
                repeat refine ⟨by kernel_rfl, by kernel_rfl, ?_⟩
                simp [mvcgen_simp, -map_replicate, -map_set, -map_append, -map_reverse, -map_take, -map_drop, -map_tail, -any_map, -all_map, -mapM_map, -map_map, Try.f7, E4_P, szL, ldL, setCs0, setCs1, setCs2, setCsA2, setCsA3, ldM, fM0, fM1, szM, zM, plM0, plM1, agM, paM, ldJ, fJ0, fJ1, fJ2, szJ, zJ, plJ0, plJ1, plJ2, agJ, paJ, loadD, viewN]
          · simp (maxSteps := 10000000) [go_sem, -map_replicate, -map_set, -map_append, -map_reverse, -map_take, -map_drop, -map_tail, -any_map, -all_map, -mapM_map, -map_map, slL, szI, ldI, zI, undL, apL, setI, rdI_get, Nat.add_one_le_iff, fillV, zeros1, zeros0, appendD, segV, lvO, goneOf, sliceD, bound, Nat.add_assoc, E4_P, E4_m, E4_s, szL, ldL, setCs0, setCs1, setCs2, setCsA2, setCsA3, ldM, fM0, fM1, szM, zM, plM0, plM1, agM, paM, ldJ, fJ0, fJ1, fJ2, szJ, zJ, plJ0, plJ1, plJ2, agJ, paJ, T]
            by_cases A : z1 = 0
            · obtain ⟨A3, A4⟩ := A1 A
              subst A
              have q1 := up4 (run_likeInts f1 (by omega))
              as_aux_lemma =>
                simp (maxSteps := 10000000) [go_sem, -map_replicate, -map_set, -map_append, -map_reverse, -map_take, -map_drop, -map_tail, -any_map, -all_map, -mapM_map, -map_map, slL, szI, ldI, zI, undL, apL, setI, rdI_get, Nat.add_one_le_iff, fillV, zeros1, zeros0, appendD, segV, lvO, goneOf, sliceD, bound, Nat.add_assoc, E4_P, E4_m, E4_s, szL, ldL, setCs0, setCs1, setCs2, setCsA2, setCsA3, ldM, fM0, fM1, szM, zM, plM0, plM1, agM, paM, ldJ, fJ0, fJ1, fJ2, szJ, zJ, plJ0, plJ1, plJ2, agJ, paJ, A4, q1]
                repeat refine ⟨by kernel_rfl, by kernel_rfl, ?_⟩
                simp [mvcgen_simp, -map_replicate, -map_set, -map_append, -map_reverse, -map_take, -map_drop, -map_tail, -any_map, -all_map, -mapM_map, -map_map, Try.f7, E4_P, szL, ldL, setCs0, setCs1, setCs2, setCsA2, setCsA3, ldM, fM0, fM1, szM, zM, plM0, plM1, agM, paM, ldJ, fJ0, fJ1, fJ2, szJ, zJ, plJ0, plJ1, plJ2, agJ, paJ, loadD, viewN]
            · have A3 := A2 A
              subst A3
              as_aux_lemma =>
                simp (maxSteps := 10000000) [go_sem, -map_replicate, -map_set, -map_append, -map_reverse, -map_take, -map_drop, -map_tail, -any_map, -all_map, -mapM_map, -map_map, slL, szI, ldI, zI, undL, apL, setI, rdI_get, Nat.add_one_le_iff, fillV, zeros1, zeros0, appendD, segV, lvO, goneOf, sliceD, bound, Nat.add_assoc, E4_P, E4_m, E4_s, szL, ldL, setCs0, setCs1, setCs2, setCsA2, setCsA3, ldM, fM0, fM1, szM, zM, plM0, plM1, agM, paM, ldJ, fJ0, fJ1, fJ2, szJ, zJ, plJ0, plJ1, plJ2, agJ, paJ, A]
                repeat refine ⟨by kernel_rfl, by kernel_rfl, ?_⟩
                simp [mvcgen_simp, -map_replicate, -map_set, -map_append, -map_reverse, -map_take, -map_drop, -map_tail, -any_map, -all_map, -mapM_map, -map_map, Try.f7, E4_P, szL, ldL, setCs0, setCs1, setCs2, setCsA2, setCsA3, ldM, fM0, fM1, szM, zM, plM0, plM1, agM, paM, ldJ, fJ0, fJ1, fJ2, szJ, zJ, plJ0, plJ1, plJ2, agJ, paJ, loadD, viewN]
        · subst F6
          simp only [List.length_nil, List.map_nil] at q6 F3
          simp (maxSteps := 10000000) [go_sem, -map_replicate, -map_set, -map_append, -map_reverse, -map_take, -map_drop, -map_tail, -any_map, -all_map, -mapM_map, -map_map, slL, szI, ldI, zI, undL, apL, setI, rdI_get, Nat.add_one_le_iff, fillV, zeros1, zeros0, appendD, segV, lvO, goneOf, sliceD, bound, Nat.add_assoc, E4_P, E4_m, E4_s, szL, ldL, setCs0, setCs1, setCs2, setCsA2, setCsA3, ldM, fM0, fM1, szM, zM, plM0, plM1, agM, paM, ldJ, fJ0, fJ1, fJ2, szJ, zJ, plJ0, plJ1, plJ2, agJ, paJ, F3, F4, F5, q6]
          by_cases T : z7 = 0
          · obtain ⟨S, M, T2, T3, T4, T5⟩ := T1 T
            subst T
            have q7 := up4 (run_likeInts M (by omega))
            simp (maxSteps := 10000000) [go_sem, -map_replicate, -map_set, -map_append, -map_reverse, -map_take, -map_drop, -map_tail, -any_map, -all_map, -mapM_map, -map_map, slL, szI, ldI, zI, undL, apL, setI, rdI_get, Nat.add_one_le_iff, fillV, zeros1, zeros0, appendD, segV, lvO, goneOf, sliceD, bound, Nat.add_assoc, E4_P, E4_m, E4_s, szL, ldL, setCs0, setCs1, setCs2, setCsA2, setCsA3, ldM, fM0, fM1, szM, zM, plM0, plM1, agM, paM, ldJ, fJ0, fJ1, fJ2, szJ, zJ, plJ0, plJ1, plJ2, agJ, paJ, T3, T4, T5, q7, zerosV2, fillV]
            by_cases A : z1 = 0
            · obtain ⟨A3, A4⟩ := A1 A
              subst A
              have q1 := up4 (run_likeInts f1 (by omega))
              as_aux_lemma =>
                simp (maxSteps := 10000000) [go_sem, -map_replicate, -map_set, -map_append, -map_reverse, -map_take, -map_drop, -map_tail, -any_map, -all_map, -mapM_map, -map_map, slL, szI, ldI, zI, undL, apL, setI, rdI_get, Nat.add_one_le_iff, fillV, zeros1, zeros0, appendD, segV, lvO, goneOf, sliceD, bound, Nat.add_assoc, E4_P, E4_m, E4_s, szL, ldL, setCs0, setCs1, setCs2, setCsA2, setCsA3, ldM, fM0, fM1, szM, zM, plM0, plM1, agM, paM, ldJ, fJ0, fJ1, fJ2, szJ, zJ, plJ0, plJ1, plJ2, agJ, paJ, A4, q1]
                repeat refine ⟨by kernel_rfl, by kernel_rfl, ?_⟩
                simp [mvcgen_simp, -map_replicate, -map_set, -map_append, -map_reverse, -map_take, -map_drop, -map_tail, -any_map, -all_map, -mapM_map, -map_map, Try.f7, E4_P, szL, ldL, setCs0, setCs1, setCs2, setCsA2, setCsA3, ldM, fM0, fM1, szM, zM, plM0, plM1, agM, paM, ldJ, fJ0, fJ1, fJ2, szJ, zJ, plJ0, plJ1, plJ2, agJ, paJ, loadD, viewN]
            · have A3 := A2 A
              subst A3
              as_aux_lemma =>
                simp (maxSteps := 10000000) [go_sem, -map_replicate, -map_set, -map_append, -map_reverse, -map_take, -map_drop, -map_tail, -any_map, -all_map, -mapM_map, -map_map, slL, szI, ldI, zI, undL, apL, setI, rdI_get, Nat.add_one_le_iff, fillV, zeros1, zeros0, appendD, segV, lvO, goneOf, sliceD, bound, Nat.add_assoc, E4_P, E4_m, E4_s, szL, ldL, setCs0, setCs1, setCs2, setCsA2, setCsA3, ldM, fM0, fM1, szM, zM, plM0, plM1, agM, paM, ldJ, fJ0, fJ1, fJ2, szJ, zJ, plJ0, plJ1, plJ2, agJ, paJ, A]
                repeat refine ⟨by kernel_rfl, by kernel_rfl, ?_⟩
                simp [mvcgen_simp, -map_replicate, -map_set, -map_append, -map_reverse, -map_take, -map_drop, -map_tail, -any_map, -all_map, -mapM_map, -map_map, Try.f7, E4_P, szL, ldL, setCs0, setCs1, setCs2, setCsA2, setCsA3, ldM, fM0, fM1, szM, zM, plM0, plM1, agM, paM, ldJ, fJ0, fJ1, fJ2, szJ, zJ, plJ0, plJ1, plJ2, agJ, paJ, loadD, viewN]
          · simp (maxSteps := 10000000) [go_sem, -map_replicate, -map_set, -map_append, -map_reverse, -map_take, -map_drop, -map_tail, -any_map, -all_map, -mapM_map, -map_map, slL, szI, ldI, zI, undL, apL, setI, rdI_get, Nat.add_one_le_iff, fillV, zeros1, zeros0, appendD, segV, lvO, goneOf, sliceD, bound, Nat.add_assoc, E4_P, E4_m, E4_s, szL, ldL, setCs0, setCs1, setCs2, setCsA2, setCsA3, ldM, fM0, fM1, szM, zM, plM0, plM1, agM, paM, ldJ, fJ0, fJ1, fJ2, szJ, zJ, plJ0, plJ1, plJ2, agJ, paJ, T]
            by_cases A : z1 = 0
            · obtain ⟨A3, A4⟩ := A1 A
              subst A
              have q1 := up4 (run_likeInts f1 (by omega))
              as_aux_lemma =>
                simp (maxSteps := 10000000) [go_sem, -map_replicate, -map_set, -map_append, -map_reverse, -map_take, -map_drop, -map_tail, -any_map, -all_map, -mapM_map, -map_map, slL, szI, ldI, zI, undL, apL, setI, rdI_get, Nat.add_one_le_iff, fillV, zeros1, zeros0, appendD, segV, lvO, goneOf, sliceD, bound, Nat.add_assoc, E4_P, E4_m, E4_s, szL, ldL, setCs0, setCs1, setCs2, setCsA2, setCsA3, ldM, fM0, fM1, szM, zM, plM0, plM1, agM, paM, ldJ, fJ0, fJ1, fJ2, szJ, zJ, plJ0, plJ1, plJ2, agJ, paJ, A4, q1]
                repeat refine ⟨by kernel_rfl, by kernel_rfl, ?_⟩
                simp [mvcgen_simp, -map_replicate, -map_set, -map_append, -map_reverse, -map_take, -map_drop, -map_tail, -any_map, -all_map, -mapM_map, -map_map, Try.f7, E4_P, szL, ldL, setCs0, setCs1, setCs2, setCsA2, setCsA3, ldM, fM0, fM1, szM, zM, plM0, plM1, agM, paM, ldJ, fJ0, fJ1, fJ2, szJ, zJ, plJ0, plJ1, plJ2, agJ, paJ, loadD, viewN]
            · have A3 := A2 A
              subst A3
              as_aux_lemma =>
                simp (maxSteps := 10000000) [go_sem, -map_replicate, -map_set, -map_append, -map_reverse, -map_take, -map_drop, -map_tail, -any_map, -all_map, -mapM_map, -map_map, slL, szI, ldI, zI, undL, apL, setI, rdI_get, Nat.add_one_le_iff, fillV, zeros1, zeros0, appendD, segV, lvO, goneOf, sliceD, bound, Nat.add_assoc, E4_P, E4_m, E4_s, szL, ldL, setCs0, setCs1, setCs2, setCsA2, setCsA3, ldM, fM0, fM1, szM, zM, plM0, plM1, agM, paM, ldJ, fJ0, fJ1, fJ2, szJ, zJ, plJ0, plJ1, plJ2, agJ, paJ, A]
                repeat refine ⟨by kernel_rfl, by kernel_rfl, ?_⟩
                simp [mvcgen_simp, -map_replicate, -map_set, -map_append, -map_reverse, -map_take, -map_drop, -map_tail, -any_map, -all_map, -mapM_map, -map_map, Try.f7, E4_P, szL, ldL, setCs0, setCs1, setCs2, setCsA2, setCsA3, ldM, fM0, fM1, szM, zM, plM0, plM1, agM, paM, ldJ, fJ0, fJ1, fJ2, szJ, zJ, plJ0, plJ1, plJ2, agJ, paJ, loadD, viewN]
      · simp (maxSteps := 10000000) [go_sem, -map_replicate, -map_set, -map_append, -map_reverse, -map_take, -map_drop, -map_tail, -any_map, -all_map, -mapM_map, -map_map, slL, szI, ldI, zI, undL, apL, setI, rdI_get, Nat.add_one_le_iff, fillV, zeros1, zeros0, appendD, segV, lvO, goneOf, sliceD, bound, Nat.add_assoc, E4_P, E4_m, E4_s, szL, ldL, setCs0, setCs1, setCs2, setCsA2, setCsA3, ldM, fM0, fM1, szM, zM, plM0, plM1, agM, paM, ldJ, fJ0, fJ1, fJ2, szJ, zJ, plJ0, plJ1, plJ2, agJ, paJ, F]
        by_cases T : z7 = 0
        · obtain ⟨S, M, T2, T3, T4, T5⟩ := T1 T
          subst T
          have q7 := up4 (run_likeInts M (by omega))
          simp (maxSteps := 10000000) [go_sem, -map_replicate, -map_set, -map_append, -map_reverse, -map_take, -map_drop, -map_tail, -any_map, -all_map, -mapM_map, -map_map, slL, szI, ldI, zI, undL, apL, setI, rdI_get, Nat.add_one_le_iff, fillV, zeros1, zeros0, appendD, segV, lvO, goneOf, sliceD, bound, Nat.add_assoc, E4_P, E4_m, E4_s, szL, ldL, setCs0, setCs1, setCs2, setCsA2, setCsA3, ldM, fM0, fM1, szM, zM, plM0, plM1, agM, paM, ldJ, fJ0, fJ1, fJ2, szJ, zJ, plJ0, plJ1, plJ2, agJ, paJ, T3, T4, T5, q7, zerosV2, fillV]
          by_cases A : z1 = 0
          · obtain ⟨A3, A4⟩ := A1 A
            subst A
            have q1 := up4 (run_likeInts f1 (by omega))
            as_aux_lemma =>
              simp (maxSteps := 10000000) [go_sem, -map_replicate, -map_set, -map_append, -map_reverse, -map_take, -map_drop, -map_tail, -any_map, -all_map, -mapM_map, -map_map, slL, szI, ldI, zI, undL, apL, setI, rdI_get, Nat.add_one_le_iff, fillV, zeros1, zeros0, appendD, segV, lvO, goneOf, sliceD, bound, Nat.add_assoc, E4_P, E4_m, E4_s, szL, ldL, setCs0, setCs1, setCs2, setCsA2, setCsA3, ldM, fM0, fM1, szM, zM, plM0, plM1, agM, paM, ldJ, fJ0, fJ1, fJ2, szJ, zJ, plJ0, plJ1, plJ2, agJ, paJ, A4, q1]
              repeat refine ⟨by kernel_rfl, by kernel_rfl, ?_⟩
              simp [mvcgen_simp, -map_replicate, -map_set, -map_append, -map_reverse, -map_take, -map_drop, -map_tail, -any_map, -all_map, -mapM_map, -map_map, Try.f7, E4_P, szL, ldL, setCs0, setCs1, setCs2, setCsA2, setCsA3, ldM, fM0, fM1, szM, zM, plM0, plM1, agM, paM, ldJ, fJ0, fJ1, fJ2, szJ, zJ, plJ0, plJ1, plJ2, agJ, paJ, loadD, viewN]
          · have A3 := A2 A
            subst A3
            as_aux_lemma =>
              simp (maxSteps := 10000000) [go_sem, -map_replicate, -map_set, -map_append, -map_reverse, -map_take, -map_drop, -map_tail, -any_map, -all_map, -mapM_map, -map_map, slL, szI, ldI, zI, undL, apL, setI, rdI_get, Nat.add_one_le_iff, fillV, zeros1, zeros0, appendD, segV, lvO, goneOf, sliceD, bound, Nat.add_assoc, E4_P, E4_m, E4_s, szL, ldL, setCs0, setCs1, setCs2, setCsA2, setCsA3, ldM, fM0, fM1, szM, zM, plM0, plM1, agM, paM, ldJ, fJ0, fJ1, fJ2, szJ, zJ, plJ0, plJ1, plJ2, agJ, paJ, A]
              repeat refine ⟨by kernel_rfl, by kernel_rfl, ?_⟩
              simp [mvcgen_simp, -map_replicate, -map_set, -map_append, -map_reverse, -map_take, -map_drop, -map_tail, -any_map, -all_map, -mapM_map, -map_map, Try.f7, E4_P, szL, ldL, setCs0, setCs1, setCs2, setCsA2, setCsA3, ldM, fM0, fM1, szM, zM, plM0, plM1, agM, paM, ldJ, fJ0, fJ1, fJ2, szJ, zJ, plJ0, plJ1, plJ2, agJ, paJ, loadD, viewN]
        · simp (maxSteps := 10000000) [go_sem, -map_replicate, -map_set, -map_append, -map_reverse, -map_take, -map_drop, -map_tail, -any_map, -all_map, -mapM_map, -map_map, slL, szI, ldI, zI, undL, apL, setI, rdI_get, Nat.add_one_le_iff, fillV, zeros1, zeros0, appendD, segV, lvO, goneOf, sliceD, bound, Nat.add_assoc, E4_P, E4_m, E4_s, szL, ldL, setCs0, setCs1, setCs2, setCsA2, setCsA3, ldM, fM0, fM1, szM, zM, plM0, plM1, agM, paM, ldJ, fJ0, fJ1, fJ2, szJ, zJ, plJ0, plJ1, plJ2, agJ, paJ, T]
          by_cases A : z1 = 0
          · obtain ⟨A3, A4⟩ := A1 A
            subst A
            have q1 := up4 (run_likeInts f1 (by omega))
            as_aux_lemma =>
              simp (maxSteps := 10000000) [go_sem, -map_replicate, -map_set, -map_append, -map_reverse, -map_take, -map_drop, -map_tail, -any_map, -all_map, -mapM_map, -map_map, slL, szI, ldI, zI, undL, apL, setI, rdI_get, Nat.add_one_le_iff, fillV, zeros1, zeros0, appendD, segV, lvO, goneOf, sliceD, bound, Nat.add_assoc, E4_P, E4_m, E4_s, szL, ldL, setCs0, setCs1, setCs2, setCsA2, setCsA3, ldM, fM0, fM1, szM, zM, plM0, plM1, agM, paM, ldJ, fJ0, fJ1, fJ2, szJ, zJ, plJ0, plJ1, plJ2, agJ, paJ, A4, q1]
              repeat refine ⟨by kernel_rfl, by kernel_rfl, ?_⟩
              simp [mvcgen_simp, -map_replicate, -map_set, -map_append, -map_reverse, -map_take, -map_drop, -map_tail, -any_map, -all_map, -mapM_map, -map_map, Try.f7, E4_P, szL, ldL, setCs0, setCs1, setCs2, setCsA2, setCsA3, ldM, fM0, fM1, szM, zM, plM0, plM1, agM, paM, ldJ, fJ0, fJ1, fJ2, szJ, zJ, plJ0, plJ1, plJ2, agJ, paJ, loadD, viewN]
          · have A3 := A2 A
            subst A3
            as_aux_lemma =>
              simp (maxSteps := 10000000) [go_sem, -map_replicate, -map_set, -map_append, -map_reverse, -map_take, -map_drop, -map_tail, -any_map, -all_map, -mapM_map, -map_map, slL, szI, ldI, zI, undL, apL, setI, rdI_get, Nat.add_one_le_iff, fillV, zeros1, zeros0, appendD, segV, lvO, goneOf, sliceD, bound, Nat.add_assoc, E4_P, E4_m, E4_s, szL, ldL, setCs0, setCs1, setCs2, setCsA2, setCsA3, ldM, fM0, fM1, szM, zM, plM0, plM1, agM, paM, ldJ, fJ0, fJ1, fJ2, szJ, zJ, plJ0, plJ1, plJ2, agJ, paJ, A]
              repeat refine ⟨by kernel_rfl, by kernel_rfl, ?_⟩
              simp [mvcgen_simp, -map_replicate, -map_set, -map_append, -map_reverse, -map_take, -map_drop, -map_tail, -any_map, -all_map, -mapM_map, -map_map, Try.f7, E4_P, szL, ldL, setCs0, setCs1, setCs2, setCsA2, setCsA3, ldM, fM0, fM1, szM, zM, plM0, plM1, agM, paM, ldJ, fJ0, fJ1, fJ2, szJ, zJ, plJ0, plJ1, plJ2, agJ, paJ, loadD, viewN]
end Go.Proofs.Ytabnganndcmcnaa.Ev
