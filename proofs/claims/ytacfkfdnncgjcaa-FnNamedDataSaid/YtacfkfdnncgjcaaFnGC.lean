/- FnNamedData: data with names have moments with these names, squared norms are norms, and pairings are symmetric. Conditions: none. -/
import Derived.Test.YtacfkfdnncgjcaaFnGB
import Derived.Test.YtacfkfdnncgjcaaFnDH
set_option linter.unusedSimpArgs false
set_option linter.unusedVariables false
namespace Go.Proofs.Ytacfkfdnncgjcaa.Ev
open Go Go.Proofs
open List (map_replicate map_set map_append map_reverse map_take map_drop map_tail any_map all_map mapM_map map_map)
set_option maxRecDepth 40000
set_option maxHeartbeats 8000000
attribute [local bitvec_to_nat] slL szI ldI zI undL apL setI rdI_get Nat.add_one_le_iff fillV zeros1 zeros0 appendD segV lvO goneOf sliceD bound Nat.add_assoc szL ldL setCs0 setCs1 setCs2 setCsA2 setCsA3 ldM fM0 fM1 szM zM plM0 plM1 agM paM ldJ fJ0 fJ1 fJ2 szJ zJ plJ0 plJ1 plJ2 agJ paJ

theorem momJ_okG {p : Int} {a b : List Int} (hj : jacB p a b = true) {n : Nat} (h1 : 1 ≤ n) (h2 : n ≤ 2 * a.length) : momJ p a b (n : Int) = (p, tab n (mo p a b), 0) := by
  unfold momJ
  rw [hj, if_pos rfl, show (decide (1 ≤ (n : Int)) && decide ((n : Int) ≤ 2 * (a.length : Int))) = true by simp; omega, if_pos rfl, Int.toNat_natCast]
theorem moM_ok {p : Int} {a b : List Int} (hj : jacB p a b = true) : momB p (tab (2 * a.length) (mo p a b)) = true := by
  have hj2 := jacB_len hj
  have hp := jacB_prime hj
  unfold momB
  have k1 : upTo (tab (2 * a.length) (mo p a b)) 24 = true := by simp [upTo, tab_len]; omega
  have k2 : (tab (2 * a.length) (mo p a b)).all (hasB p) = true := by
    rw [List.all_eq_true]; intro x hx
    obtain ⟨k, hk', rfl⟩ := List.getElem_of_mem hx
    rw [rdI_get hk', tab_rd (by simpa [tab_len] using hk')]
    have : 0 ≤ mo p a b k ∧ mo p a b k < p := mod_small hp _
    show (decide (0 ≤ mo p a b k) && decide (mo p a b k < p)) = true
    simp only [Bool.and_eq_true, decide_eq_true_eq]; exact this
  rw [jacB_pr hj, k1, k2]; rfl
theorem mk_nk (s : ByteArray) (h : 1 ≤ nk s ∧ nk s ≤ 4) : mk s = qT (nk s) := by
  obtain ⟨⟨e1, e2, e3, e4, e5, e6⟩, hn⟩ := nk_spec s
  have : nk s = 1 ∨ nk s = 2 ∨ nk s = 3 ∨ nk s = 4 := by omega
  rcases this with c | c | c | c <;> rw [c] at e1 e2 e3 e4 ⊢
  · unfold mk; rw [eq_of_beq e1]; decide +kernel
  · unfold mk; rw [eq_of_beq e2]; decide +kernel
  · unfold mk; rw [eq_of_beq e3]; decide +kernel
  · unfold mk; rw [eq_of_beq e4]; decide +kernel
theorem named_jacB {p : Int} {q n : Nat} (hpr : primeB p = true) (hn : 1 ≤ n ∧ n ≤ 12) (ho : nmOk p q n = true) : jacB p (tab n (nmA p q)) (tab n (nmB p q)) = true := by
  have hp := prime_range hpr
  simp only [nmOk, List.all_eq_true, List.mem_range, Bool.and_eq_true, decide_eq_true_eq] at ho
  have k1 : upTo (tab n (nmA p q)) 12 = true := by simp [upTo, tab_len]; omega
  have k2 : (tab n (nmA p q)).all (hasB p) = true := by
    rw [List.all_eq_true]; intro x hx
    obtain ⟨k, hk', rfl⟩ := List.getElem_of_mem hx
    rw [rdI_get hk', tab_rd (by simpa [tab_len] using hk')]
    have : 0 ≤ nmA p q k ∧ nmA p q k < p := mod_small hp _
    show (decide (0 ≤ nmA p q k) && decide (nmA p q k < p)) = true
    simp only [Bool.and_eq_true, decide_eq_true_eq]; exact this
  have k3 : (tab n (nmB p q)).all (unitB p) = true := by
    rw [List.all_eq_true]; intro x hx
    obtain ⟨k, hk', rfl⟩ := List.getElem_of_mem hx
    have hkn : k < n := by simpa [tab_len] using hk'
    rw [rdI_get hk', tab_rd hkn]
    have r1 := mod_small hp (naU q k)
    have r2 := mod_small hp (naL q k)
    obtain ⟨u1, u2⟩ := ho k hkn
    have r3 : 0 ≤ nmB p q k ∧ nmB p q k < p := divP_range hp _ _
    have d := div_ok (naU q k % p) hpr (y := naL q k % p) (by omega)
    have nz : nmB p q k ≠ 0 := fun e => by
      have e2 : divP p (naU q k % p) (naL q k % p) = 0 := e
      rw [e2, Int.mul_zero] at d
      have := cg.eq (by omega) d (by omega) r1
      omega
    show (decide (1 ≤ nmB p q k) && decide (nmB p q k < p)) = true
    simp only [Bool.and_eq_true, decide_eq_true_eq]; omega
  unfold jacB
  rw [hpr, k1, k2, k3, decide_eq_true (by rw [tab_len, tab_len])]; rfl
theorem namedJ_bad {s : ByteArray} {p n : Int} (h : (namedJ s p n).2.2.2 ≠ 0) : (namedJ s p n).2.1 = [] := by
  unfold namedJ at h ⊢
  (repeat' split) <;> first | rfl | (exfalso; simp_all)
theorem namedJ_ok {s : ByteArray} {p n : Int} (h : (namedJ s p n).2.2.2 = 0) : primeB p = true ∧ (1 ≤ n ∧ n ≤ 12) ∧ nk s ≠ 0 ∧ nmOk p (nk s) n.toNat = true ∧ namedJ s p n = (p, tab n.toNat (nmA p (nk s)), tab n.toNat (nmB p (nk s)), 0) := by
  unfold namedJ at h ⊢
  by_cases c1 : (primeB p && (decide (1 ≤ n) && decide (n ≤ 12))) = true
  · rw [if_pos c1] at h ⊢
    by_cases c2 : nk s = 0
    · rw [if_pos c2] at h; simp at h
    · rw [if_neg c2] at h ⊢
      by_cases c3 : nmOk p (nk s) n.toNat = true
      · rw [if_pos c3]
        simp only [Bool.and_eq_true, decide_eq_true_eq] at c1
        exact ⟨c1.1, c1.2, c2, c3, rfl⟩
      · rw [if_neg c3] at h; simp at h
  · rw [if_neg c1] at h; simp at h
/-- What the last part of the law runs. -/
theorem named_last {s : ByteArray} {p n : Int} (hs : s.size ≤ 100) (h : (namedJ s p n).2.2.2 = 0) (hq : nk s ≤ 4) : (1 ≤ n ∧ n ≤ 12) ∧ ∃ M : List Int, M.length ≤ 24 ∧
    runv E1 9 [(V.agg [V.int .i64 ((namedJ s p n).1), (V.list (List.length ((namedJ s p n).2.1)) (List.map (V.int .i64) ((namedJ s p n).2.1))), (V.list (List.length ((namedJ s p n).2.2.1)) (List.map (V.int .i64) ((namedJ s p n).2.2.1)))]), (V.int .i64 (2 * n))] = some ⟨true, .tup [(V.agg [V.int .i64 (p), (V.uniq 1 (List.length (M)) (List.map (V.int .i64) (M)))]), (V.int .i64 (0))], [.agg [.undef, .undef, .undef], .undef]⟩ ∧
    runv E1 44 [.str s, (V.int .i64 (p)), (V.int .i64 (2 * n))] = some ⟨true, .tup [(V.agg [V.int .i64 (p), (V.uniq 1 (List.length (M)) (List.map (V.int .i64) (M)))]), (V.int .i64 (0))], [.undef, .undef, .undef]⟩ := by
  obtain ⟨hpr, hn, h0, ho, e⟩ := namedJ_ok h
  obtain ⟨N, rfl⟩ : ∃ N : Nat, n = N := ⟨n.toNat, by omega⟩
  rw [e]
  rw [Int.toNat_natCast] at *
  have hp := prime_range hpr
  have hj := named_jacB hpr (by omega : 1 ≤ N ∧ N ≤ 12) ho
  have la : (tab N (nmA p (nk s))).length = N := tab_len _ _
  refine ⟨hn, nmL (qT (nk s)) p (2 * N), by rw [nmL_len]; omega, ?_, ?_⟩
  · have m1 := run_implMomentsOfJacobi p (tab N (nmA p (nk s))) (tab N (nmB p (nk s))) ((2 * N : Nat) : Int) (by rw [tab_len]; omega) (by rw [tab_len]; omega)
    rw [momJ_okG hj (by omega) (by rw [la]; exact Nat.le_refl _), show ((2 * N : Nat) : Int) = 2 * (N : Int) by omega] at m1
    have eL : tab (2 * N) (mo p (tab N (nmA p (nk s))) (tab N (nmB p (nk s)))) = nmL (qT (nk s)) p (2 * N) := (eq_tab (nmL_len _ _ _) fun t ht => (named_mo hp (by omega) (by omega) ht).symm).symm
    rw [eL] at m1
    exact m1
  · have m2 := run_implNamedMoments s p ((2 * N : Nat) : Int) (by omega)
    have e2 : namedM s p ((2 * N : Nat) : Int) = (p, nmL (qT (nk s)) p (2 * N), 0) := by
      unfold namedM
      have hm := mk_nk s (by omega)
      have hq2 : 2 ≤ qT (nk s) := by unfold qT; (repeat' split) <;> omega
      rw [hm, hpr, show (decide (1 ≤ ((2 * N : Nat) : Int)) && decide (((2 * N : Nat) : Int) ≤ 24)) = true by simp; omega, Bool.and_self, if_pos rfl, if_neg (by omega), Int.toNat_natCast]
      have e3 : okM (qT (nk s)) p (2 * N) = true := by unfold okM; rw [decide_eq_false (by omega)]; rfl
      rw [if_pos e3]
    rw [e2, show ((2 * N : Nat) : Int) = 2 * (N : Int) by omega] at m2
    exact m2
theorem run_lawNamedData (code : List Int) (h_code : code.length ≤ 9223372036854775807) (hb : ∀ z, z ∈ code → 0 ≤ z ∧ z ≤ 255) :
    runv E1 5 [.list code.length (code.map (V.int .u8))] = some ⟨true, .bool true, [.undef]⟩ := by
  have g0 := run_big code
  by_cases hl : 4096 < (code.length : Int)
  · have cdk : codeOk Try.f5.ntmps (Try.f5.body.getD .skip) = true := by kernel_rfl
    refine run_of_WLr (fn := Try.f5) rfl Try.func5 rfl ⟨by simp [Try.ntmps5], by simp [wideA, ints], cdk, by simp [Try.f5]⟩ rfl (by simp [rebOk, noId, adoptT, adoptA, adoptL, adoptC, depth]) ?_
    simp [go_sem, -map_replicate, -map_set, -map_append, -map_reverse, -map_take, -map_drop, -map_tail, -any_map, -all_map, -mapM_map, -map_map, slL, szI, ldI, zI, undL, apL, setI, rdI_get, Nat.add_one_le_iff, fillV, zeros1, zeros0, appendD, segV, lvO, goneOf, sliceD, bound, Nat.add_assoc, g0, hl]
    simp [mvcgen_simp, -map_replicate, -map_set, -map_append, -map_reverse, -map_take, -map_drop, -map_tail, -any_map, -all_map, -mapM_map, -map_map, Try.f5]
  have hl' : code.length ≤ 4096 := by omega
  obtain ⟨nm, p, n, hnm, d1⟩ := run_DrawNamedJacobi code hb hl'
  have j1 := run_implNamedJacobi nm p n (by omega)
  have j2 := run_specNamedJacobi nm p n (by omega)
  have j0 := namedJ_len nm p n (by omega)
  have j3 := run_jacobi9 (namedJ nm p n).1 (namedJ nm p n).2.1 (namedJ nm p n).2.2.1 j0.1 j0.2
  have j4 := @namedJ_bad nm p n
  have j5 := @named_last nm p n hnm
  have j6 := @namedJ_ok nm p n
  obtain ⟨⟨_, _, _, _, e5, e6⟩, hnk⟩ := nk_spec nm
  unfold nSec at e5; unfold nLeg at e6
  obtain ⟨p2, a2, b2, hab2, d2⟩ := run_DrawSquaredNorms code hb hl'
  have s1 := up (run_implSquaredNorms p2 a2 b2 (by omega) (by omega))
  have s2 := up (run_specSquaredNorms p2 a2 b2 (by omega) (by omega))
  obtain ⟨p3, a3, b3, cs, ds, hab3, hcd, d3⟩ := run_DrawPairLists code hb hl'
  have r1 := up (run_implPairLists p3 a3 b3 cs ds (by omega) (by omega) (by omega) (by omega))
  have r2 := up (run_specPairLists p3 a3 b3 cs ds (by omega) (by omega) (by omega) (by omega))
  have r3 := up (run_implPairLists p3 a3 b3 ds cs (by omega) (by omega) (by omega) (by omega))
  rw [pairR_sym] at r3
  have cdk : codeOk Try.f5.ntmps (Try.f5.body.getD .skip) = true := by kernel_rfl
  refine run_of_WLr (fn := Try.f5) rfl Try.func5 rfl ⟨by simp [Try.ntmps5], by simp [wideA, ints], cdk, by simp [Try.f5]⟩ rfl (by simp [rebOk, noId, adoptT, adoptA, adoptL, adoptC, depth]) ?_
  generalize pairR p3 a3 b3 cs ds = pr at *
  obtain ⟨px, pc⟩ := pr
  have j7 : (namedJ nm p n).2.2.2 = 0 → 1 ≤ n ∧ n ≤ 12 := fun h => (j6 h).2.1
  clear j6
  generalize namedJ nm p n = jn at *
  obtain ⟨jp, ja, jb, jc⟩ := jn
  simp only at r1 r2 r3 j0 j1 j2 j3 j4 j5 j7
  cases hj : jacB p2 a2 b2 with
  | true =>
    have hj2 := jacB_len hj
    rw [hj] at s1 s2
    simp only [if_true] at s1 s2
    have m1 := run_implMomentsOfJacobi p2 a2 b2 ((2 * a2.length : Nat) : Int) (by omega) (by omega)
    rw [momJ_okG hj (by omega) (Nat.le_refl _)] at m1
    obtain ⟨M2, hM2⟩ : ∃ M2, tab (2 * a2.length) (mo p2 a2 b2) = M2 := ⟨_, rfl⟩
    have lM2 : M2.length = 2 * a2.length := by rw [← hM2]; exact tab_len _ _
    have m2 := run_implNormsOf p2 a2 b2 M2 hj (by rw [← hM2]; exact moM_ok hj) (fun t ht => by rw [← hM2]; exact tab_rd ht) lM2
    obtain ⟨N2, hN2⟩ : ∃ N2, tab a2.length (nrm p2 b2) = N2 := ⟨_, rfl⟩
    have lN2 : N2.length = a2.length := by rw [← hN2]; exact tab_len _ _
    have lb2 : b2.length = a2.length := hj2.2.2
    rw [hM2, show ((2 * a2.length : Nat) : Int) = 2 * (a2.length : Int) by omega] at m1
    rw [hN2] at m2 s1 s2
    have s3 := run_likeInts N2 (by omega)
    simp only [lM2] at m1
    rw [lN2] at s1 s2 s3 m2
    rw [lM2] at m2
    rw [lb2] at d2 s1 s2 m1
    have w2 : IntKind.i64.wrap (2 * (a2.length : Int)) = 2 * (a2.length : Int) := IntWalk.i64_in _ (by omega)
    have w3 : IntKind.i64.wrap (a2.length : Int) = a2.length := IntWalk.i64_in _ (by omega)
    clear hM2 hN2
    by_cases A : jc = 0
    · subst A
      by_cases B : nk nm ≤ 4
      · obtain ⟨hn, M, lM, t1, t2⟩ := j5 rfl B
        have t3 := run_moments9 p M (by omega)
        have w1 : IntKind.i64.wrap (2 * n) = 2 * n := IntWalk.i64_in _ (by omega)
        rw [decide_eq_false (by omega)] at e5 e6
        clear j4 j5 j7
        by_cases C : pc = 0
        · skip
          subst C
          as_aux_lemma =>
            simp [go_sem, -map_replicate, -map_set, -map_append, -map_reverse, -map_take, -map_drop, -map_tail, -any_map, -all_map, -mapM_map, -map_map, bitvec_to_nat, g0, hl, d1, j1, j2, j3, d2, d3, r1, r2, r3, s1, s2, s3, m1, m2, w2, w3, lM2, lN2, lb2, e5, e6, w1, t1, t2, t3, undS, strOp, fillV]
            repeat refine ⟨by kernel_rfl, by kernel_rfl, ?_⟩
            simp [mvcgen_simp, -map_replicate, -map_set, -map_append, -map_reverse, -map_take, -map_drop, -map_tail, -any_map, -all_map, -mapM_map, -map_map, Try.f5, szL, ldL, setCs0, setCs1, setCs2, setCsA2, setCsA3, ldM, fM0, fM1, szM, zM, plM0, plM1, agM, paM, ldJ, fJ0, fJ1, fJ2, szJ, zJ, plJ0, plJ1, plJ2, agJ, paJ, loadD, viewN]
        · skip
          as_aux_lemma =>
            simp [go_sem, -map_replicate, -map_set, -map_append, -map_reverse, -map_take, -map_drop, -map_tail, -any_map, -all_map, -mapM_map, -map_map, bitvec_to_nat, g0, hl, d1, j1, j2, j3, d2, d3, r1, r2, C, s1, s2, s3, m1, m2, w2, w3, lM2, lN2, lb2, e5, e6, w1, t1, t2, t3, undS, strOp, fillV]
            repeat refine ⟨by kernel_rfl, by kernel_rfl, ?_⟩
            simp [mvcgen_simp, -map_replicate, -map_set, -map_append, -map_reverse, -map_take, -map_drop, -map_tail, -any_map, -all_map, -mapM_map, -map_map, Try.f5, szL, ldL, setCs0, setCs1, setCs2, setCsA2, setCsA3, ldM, fM0, fM1, szM, zM, plM0, plM1, agM, paM, ldJ, fJ0, fJ1, fJ2, szJ, zJ, plJ0, plJ1, plJ2, agJ, paJ, loadD, viewN]
      · clear j4 j5
        by_cases D : nk nm = 5
        · rw [decide_eq_true D] at e5
          by_cases C : pc = 0
          · skip
            subst C
            as_aux_lemma =>
              simp [go_sem, -map_replicate, -map_set, -map_append, -map_reverse, -map_take, -map_drop, -map_tail, -any_map, -all_map, -mapM_map, -map_map, bitvec_to_nat, g0, hl, d1, j1, j2, j3, d2, d3, r1, r2, r3, s1, s2, s3, m1, m2, w2, w3, lM2, lN2, lb2, e5, undS, strOp, fillV]
              repeat refine ⟨by kernel_rfl, by kernel_rfl, ?_⟩
              simp [mvcgen_simp, -map_replicate, -map_set, -map_append, -map_reverse, -map_take, -map_drop, -map_tail, -any_map, -all_map, -mapM_map, -map_map, Try.f5, szL, ldL, setCs0, setCs1, setCs2, setCsA2, setCsA3, ldM, fM0, fM1, szM, zM, plM0, plM1, agM, paM, ldJ, fJ0, fJ1, fJ2, szJ, zJ, plJ0, plJ1, plJ2, agJ, paJ, loadD, viewN]
          · skip
            as_aux_lemma =>
              simp [go_sem, -map_replicate, -map_set, -map_append, -map_reverse, -map_take, -map_drop, -map_tail, -any_map, -all_map, -mapM_map, -map_map, bitvec_to_nat, g0, hl, d1, j1, j2, j3, d2, d3, r1, r2, C, s1, s2, s3, m1, m2, w2, w3, lM2, lN2, lb2, e5, undS, strOp, fillV]
              repeat refine ⟨by kernel_rfl, by kernel_rfl, ?_⟩
              simp [mvcgen_simp, -map_replicate, -map_set, -map_append, -map_reverse, -map_take, -map_drop, -map_tail, -any_map, -all_map, -mapM_map, -map_map, Try.f5, szL, ldL, setCs0, setCs1, setCs2, setCsA2, setCsA3, ldM, fM0, fM1, szM, zM, plM0, plM1, agM, paM, ldJ, fJ0, fJ1, fJ2, szJ, zJ, plJ0, plJ1, plJ2, agJ, paJ, loadD, viewN]
        · rw [decide_eq_false D] at e5
          rw [decide_eq_true (by omega : nk nm = 6)] at e6
          by_cases C : pc = 0
          · skip
            subst C
            as_aux_lemma =>
              simp [go_sem, -map_replicate, -map_set, -map_append, -map_reverse, -map_take, -map_drop, -map_tail, -any_map, -all_map, -mapM_map, -map_map, bitvec_to_nat, g0, hl, d1, j1, j2, j3, d2, d3, r1, r2, r3, s1, s2, s3, m1, m2, w2, w3, lM2, lN2, lb2, e5, e6, undS, strOp, fillV]
              repeat refine ⟨by kernel_rfl, by kernel_rfl, ?_⟩
              simp [mvcgen_simp, -map_replicate, -map_set, -map_append, -map_reverse, -map_take, -map_drop, -map_tail, -any_map, -all_map, -mapM_map, -map_map, Try.f5, szL, ldL, setCs0, setCs1, setCs2, setCsA2, setCsA3, ldM, fM0, fM1, szM, zM, plM0, plM1, agM, paM, ldJ, fJ0, fJ1, fJ2, szJ, zJ, plJ0, plJ1, plJ2, agJ, paJ, loadD, viewN]
          · skip
            as_aux_lemma =>
              simp [go_sem, -map_replicate, -map_set, -map_append, -map_reverse, -map_take, -map_drop, -map_tail, -any_map, -all_map, -mapM_map, -map_map, bitvec_to_nat, g0, hl, d1, j1, j2, j3, d2, d3, r1, r2, C, s1, s2, s3, m1, m2, w2, w3, lM2, lN2, lb2, e5, e6, undS, strOp, fillV]
              repeat refine ⟨by kernel_rfl, by kernel_rfl, ?_⟩
              simp [mvcgen_simp, -map_replicate, -map_set, -map_append, -map_reverse, -map_take, -map_drop, -map_tail, -any_map, -all_map, -mapM_map, -map_map, Try.f5, szL, ldL, setCs0, setCs1, setCs2, setCsA2, setCsA3, ldM, fM0, fM1, szM, zM, plM0, plM1, agM, paM, ldJ, fJ0, fJ1, fJ2, szJ, zJ, plJ0, plJ1, plJ2, agJ, paJ, loadD, viewN]
    · have t0 := j4 A
      subst t0
      clear j4 j5 j7
      simp only [List.length_nil, List.map_nil] at j1 j2 j3
      by_cases C : pc = 0
      · skip
        subst C
        as_aux_lemma =>
          simp [go_sem, -map_replicate, -map_set, -map_append, -map_reverse, -map_take, -map_drop, -map_tail, -any_map, -all_map, -mapM_map, -map_map, bitvec_to_nat, g0, hl, d1, j1, j2, j3, d2, d3, r1, r2, r3, s1, s2, s3, m1, m2, w2, w3, lM2, lN2, lb2, A, undS, strOp, fillV]
          repeat refine ⟨by kernel_rfl, by kernel_rfl, ?_⟩
          simp [mvcgen_simp, -map_replicate, -map_set, -map_append, -map_reverse, -map_take, -map_drop, -map_tail, -any_map, -all_map, -mapM_map, -map_map, Try.f5, szL, ldL, setCs0, setCs1, setCs2, setCsA2, setCsA3, ldM, fM0, fM1, szM, zM, plM0, plM1, agM, paM, ldJ, fJ0, fJ1, fJ2, szJ, zJ, plJ0, plJ1, plJ2, agJ, paJ, loadD, viewN]
      · skip
        as_aux_lemma =>
          simp [go_sem, -map_replicate, -map_set, -map_append, -map_reverse, -map_take, -map_drop, -map_tail, -any_map, -all_map, -mapM_map, -map_map, bitvec_to_nat, g0, hl, d1, j1, j2, j3, d2, d3, r1, r2, C, s1, s2, s3, m1, m2, w2, w3, lM2, lN2, lb2, A, undS, strOp, fillV]
          repeat refine ⟨by kernel_rfl, by kernel_rfl, ?_⟩
          simp [mvcgen_simp, -map_replicate, -map_set, -map_append, -map_reverse, -map_take, -map_drop, -map_tail, -any_map, -all_map, -mapM_map, -map_map, Try.f5, szL, ldL, setCs0, setCs1, setCs2, setCsA2, setCsA3, ldM, fM0, fM1, szM, zM, plM0, plM1, agM, paM, ldJ, fJ0, fJ1, fJ2, szJ, zJ, plJ0, plJ1, plJ2, agJ, paJ, loadD, viewN]
  | false =>
    rw [hj] at s1 s2
    simp only [Bool.false_eq_true, if_false, List.length_nil, List.map_nil] at s1 s2
    have s3 := run_likeInts [] (by simp)
    simp only [List.length_nil, List.map_nil] at s3
    by_cases A : jc = 0
    · subst A
      by_cases B : nk nm ≤ 4
      · obtain ⟨hn, M, lM, t1, t2⟩ := j5 rfl B
        have t3 := run_moments9 p M (by omega)
        have w1 : IntKind.i64.wrap (2 * n) = 2 * n := IntWalk.i64_in _ (by omega)
        rw [decide_eq_false (by omega)] at e5 e6
        clear j4 j5 j7
        by_cases C : pc = 0
        · skip
          subst C
          as_aux_lemma =>
            simp [go_sem, -map_replicate, -map_set, -map_append, -map_reverse, -map_take, -map_drop, -map_tail, -any_map, -all_map, -mapM_map, -map_map, bitvec_to_nat, g0, hl, d1, j1, j2, j3, d2, d3, r1, r2, r3, s1, s2, s3, e5, e6, w1, t1, t2, t3, undS, strOp, fillV]
            repeat refine ⟨by kernel_rfl, by kernel_rfl, ?_⟩
            simp [mvcgen_simp, -map_replicate, -map_set, -map_append, -map_reverse, -map_take, -map_drop, -map_tail, -any_map, -all_map, -mapM_map, -map_map, Try.f5, szL, ldL, setCs0, setCs1, setCs2, setCsA2, setCsA3, ldM, fM0, fM1, szM, zM, plM0, plM1, agM, paM, ldJ, fJ0, fJ1, fJ2, szJ, zJ, plJ0, plJ1, plJ2, agJ, paJ, loadD, viewN]
        · skip
          as_aux_lemma =>
            simp [go_sem, -map_replicate, -map_set, -map_append, -map_reverse, -map_take, -map_drop, -map_tail, -any_map, -all_map, -mapM_map, -map_map, bitvec_to_nat, g0, hl, d1, j1, j2, j3, d2, d3, r1, r2, C, s1, s2, s3, e5, e6, w1, t1, t2, t3, undS, strOp, fillV]
            repeat refine ⟨by kernel_rfl, by kernel_rfl, ?_⟩
            simp [mvcgen_simp, -map_replicate, -map_set, -map_append, -map_reverse, -map_take, -map_drop, -map_tail, -any_map, -all_map, -mapM_map, -map_map, Try.f5, szL, ldL, setCs0, setCs1, setCs2, setCsA2, setCsA3, ldM, fM0, fM1, szM, zM, plM0, plM1, agM, paM, ldJ, fJ0, fJ1, fJ2, szJ, zJ, plJ0, plJ1, plJ2, agJ, paJ, loadD, viewN]
      · clear j4 j5
        by_cases D : nk nm = 5
        · rw [decide_eq_true D] at e5
          by_cases C : pc = 0
          · skip
            subst C
            as_aux_lemma =>
              simp [go_sem, -map_replicate, -map_set, -map_append, -map_reverse, -map_take, -map_drop, -map_tail, -any_map, -all_map, -mapM_map, -map_map, bitvec_to_nat, g0, hl, d1, j1, j2, j3, d2, d3, r1, r2, r3, s1, s2, s3, e5, undS, strOp, fillV]
              repeat refine ⟨by kernel_rfl, by kernel_rfl, ?_⟩
              simp [mvcgen_simp, -map_replicate, -map_set, -map_append, -map_reverse, -map_take, -map_drop, -map_tail, -any_map, -all_map, -mapM_map, -map_map, Try.f5, szL, ldL, setCs0, setCs1, setCs2, setCsA2, setCsA3, ldM, fM0, fM1, szM, zM, plM0, plM1, agM, paM, ldJ, fJ0, fJ1, fJ2, szJ, zJ, plJ0, plJ1, plJ2, agJ, paJ, loadD, viewN]
          · skip
            as_aux_lemma =>
              simp [go_sem, -map_replicate, -map_set, -map_append, -map_reverse, -map_take, -map_drop, -map_tail, -any_map, -all_map, -mapM_map, -map_map, bitvec_to_nat, g0, hl, d1, j1, j2, j3, d2, d3, r1, r2, C, s1, s2, s3, e5, undS, strOp, fillV]
              repeat refine ⟨by kernel_rfl, by kernel_rfl, ?_⟩
              simp [mvcgen_simp, -map_replicate, -map_set, -map_append, -map_reverse, -map_take, -map_drop, -map_tail, -any_map, -all_map, -mapM_map, -map_map, Try.f5, szL, ldL, setCs0, setCs1, setCs2, setCsA2, setCsA3, ldM, fM0, fM1, szM, zM, plM0, plM1, agM, paM, ldJ, fJ0, fJ1, fJ2, szJ, zJ, plJ0, plJ1, plJ2, agJ, paJ, loadD, viewN]
        · rw [decide_eq_false D] at e5
          rw [decide_eq_true (by omega : nk nm = 6)] at e6
          by_cases C : pc = 0
          · skip
            subst C
            as_aux_lemma =>
              simp [go_sem, -map_replicate, -map_set, -map_append, -map_reverse, -map_take, -map_drop, -map_tail, -any_map, -all_map, -mapM_map, -map_map, bitvec_to_nat, g0, hl, d1, j1, j2, j3, d2, d3, r1, r2, r3, s1, s2, s3, e5, e6, undS, strOp, fillV]
              repeat refine ⟨by kernel_rfl, by kernel_rfl, ?_⟩
              simp [mvcgen_simp, -map_replicate, -map_set, -map_append, -map_reverse, -map_take, -map_drop, -map_tail, -any_map, -all_map, -mapM_map, -map_map, Try.f5, szL, ldL, setCs0, setCs1, setCs2, setCsA2, setCsA3, ldM, fM0, fM1, szM, zM, plM0, plM1, agM, paM, ldJ, fJ0, fJ1, fJ2, szJ, zJ, plJ0, plJ1, plJ2, agJ, paJ, loadD, viewN]
          · skip
            as_aux_lemma =>
              simp [go_sem, -map_replicate, -map_set, -map_append, -map_reverse, -map_take, -map_drop, -map_tail, -any_map, -all_map, -mapM_map, -map_map, bitvec_to_nat, g0, hl, d1, j1, j2, j3, d2, d3, r1, r2, C, s1, s2, s3, e5, e6, undS, strOp, fillV]
              repeat refine ⟨by kernel_rfl, by kernel_rfl, ?_⟩
              simp [mvcgen_simp, -map_replicate, -map_set, -map_append, -map_reverse, -map_take, -map_drop, -map_tail, -any_map, -all_map, -mapM_map, -map_map, Try.f5, szL, ldL, setCs0, setCs1, setCs2, setCsA2, setCsA3, ldM, fM0, fM1, szM, zM, plM0, plM1, agM, paM, ldJ, fJ0, fJ1, fJ2, szJ, zJ, plJ0, plJ1, plJ2, agJ, paJ, loadD, viewN]
    · have t0 := j4 A
      subst t0
      clear j4 j5 j7
      simp only [List.length_nil, List.map_nil] at j1 j2 j3
      by_cases C : pc = 0
      · skip
        subst C
        as_aux_lemma =>
          simp [go_sem, -map_replicate, -map_set, -map_append, -map_reverse, -map_take, -map_drop, -map_tail, -any_map, -all_map, -mapM_map, -map_map, bitvec_to_nat, g0, hl, d1, j1, j2, j3, d2, d3, r1, r2, r3, s1, s2, s3, A, undS, strOp, fillV]
          repeat refine ⟨by kernel_rfl, by kernel_rfl, ?_⟩
          simp [mvcgen_simp, -map_replicate, -map_set, -map_append, -map_reverse, -map_take, -map_drop, -map_tail, -any_map, -all_map, -mapM_map, -map_map, Try.f5, szL, ldL, setCs0, setCs1, setCs2, setCsA2, setCsA3, ldM, fM0, fM1, szM, zM, plM0, plM1, agM, paM, ldJ, fJ0, fJ1, fJ2, szJ, zJ, plJ0, plJ1, plJ2, agJ, paJ, loadD, viewN]
      · skip
        as_aux_lemma =>
          simp [go_sem, -map_replicate, -map_set, -map_append, -map_reverse, -map_take, -map_drop, -map_tail, -any_map, -all_map, -mapM_map, -map_map, bitvec_to_nat, g0, hl, d1, j1, j2, j3, d2, d3, r1, r2, C, s1, s2, s3, A, undS, strOp, fillV]
          repeat refine ⟨by kernel_rfl, by kernel_rfl, ?_⟩
          simp [mvcgen_simp, -map_replicate, -map_set, -map_append, -map_reverse, -map_take, -map_drop, -map_tail, -any_map, -all_map, -mapM_map, -map_map, Try.f5, szL, ldL, setCs0, setCs1, setCs2, setCsA2, setCsA3, ldM, fM0, fM1, szM, zM, plM0, plM1, agM, paM, ldJ, fJ0, fJ1, fJ2, szJ, zJ, plJ0, plJ1, plJ2, agJ, paJ, loadD, viewN]
end Go.Proofs.Ytacfkfdnncgjcaa.Ev
