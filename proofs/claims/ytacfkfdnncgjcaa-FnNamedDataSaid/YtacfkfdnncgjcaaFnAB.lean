/- PairLists: both texts and the law. Conditions: none. -/
import Derived.Test.YtacfkfdnncgjcaaFnO
set_option linter.unusedSimpArgs false
set_option linter.unusedVariables false
namespace Go.Proofs.Ytacfkfdnncgjcaa.Ev
open Go Go.Proofs
open List (map_replicate map_set map_append map_reverse map_take map_drop map_tail any_map all_map mapM_map map_map)
set_option maxRecDepth 4000
set_option maxHeartbeats 4000000
attribute [local bitvec_to_nat] slL szI ldI zI undL apL setI rdI_get Nat.add_one_le_iff fillV zeros1 zeros0 appendD segV lvO goneOf sliceD bound Nat.add_assoc szL ldL setCs0 setCs1 setCs2 setCsA2 setCsA3 ldM fM0 fM1 szM zM plM0 plM1 agM paM ldJ fJ0 fJ1 fJ2 szJ zJ plJ0 plJ1 plJ2 agJ paJ

theorem run_l10List (p : Int) (a b cs : List Int) (more : Int) (ha : a.length ≤ 1048576) (hb : b.length ≤ 1048576) (hc : cs.length ≤ 1048576) (hm : 0 ≤ more ∧ more ≤ 1000) :
    runv E0 116 [(V.agg [V.int .i64 (p), (V.list (List.length (a)) (List.map (V.int .i64) (a))), (V.list (List.length (b)) (List.map (V.int .i64) (b)))]), (V.list (List.length (cs)) (List.map (V.int .i64) (cs))), .int .i64 more] = some ⟨true, .int .i64 (if jacB p a b then (if decide ((cs.length : Int) ≤ a.length + more) && cs.all (hasB p) then 0 else 2) else 1), [.agg [.undef, .undef, .undef], .undef, .undef]⟩ := by
  have cdk : codeOk Try.f116.ntmps (Try.f116.body.getD .skip) = true := by kernel_rfl
  refine run_of_WL (fn := Try.f116) rfl Try.func116 rfl ⟨by simp [Try.ntmps116], by simp [wideA, ints], cdk, by simp [Try.f116]⟩ ?_
  have h1 := run_l03Is p a b (by omega) (by omega)
  cases e : jacB p a b with
  | false =>
    rw [e] at h1
    simp [go_sem, -map_replicate, -map_set, -map_append, -map_reverse, -map_take, -map_drop, -map_tail, -any_map, -all_map, -mapM_map, -map_map, bitvec_to_nat, h1]
    simp [mvcgen_simp, -map_replicate, -map_set, -map_append, -map_reverse, -map_take, -map_drop, -map_tail, -any_map, -all_map, -mapM_map, -map_map, Try.f116]
  | true =>
    rw [e] at h1
    have h2 := run_l02Numbers p cs (jacB_prime e) (by omega)
    have w : IntKind.i64.wrap ((a.length : Int) + more) = (a.length : Int) + more := IntWalk.i64_in _ (by omega)
    by_cases c : (a.length : Int) + more < cs.length
    · have c' : ¬ (cs.length : Int) ≤ a.length + more := by omega
      simp [go_sem, -map_replicate, -map_set, -map_append, -map_reverse, -map_take, -map_drop, -map_tail, -any_map, -all_map, -mapM_map, -map_map, bitvec_to_nat, h1, w, c]
      simp [mvcgen_simp, -map_replicate, -map_set, -map_append, -map_reverse, -map_take, -map_drop, -map_tail, -any_map, -all_map, -mapM_map, -map_map, Try.f116, c']
    · have c' : (cs.length : Int) ≤ a.length + more := by omega
      cases e2 : cs.all (hasB p) <;> rw [e2] at h2 <;> simp [go_sem, -map_replicate, -map_set, -map_append, -map_reverse, -map_take, -map_drop, -map_tail, -any_map, -all_map, -mapM_map, -map_map, bitvec_to_nat, h1, w, c, h2] <;> simp [mvcgen_simp, -map_replicate, -map_set, -map_append, -map_reverse, -map_take, -map_drop, -map_tail, -any_map, -all_map, -mapM_map, -map_map, Try.f116, c', e2]
theorem run_areNumbers (p lo hi : Int) (cs : List Int) (hc : cs.length ≤ 1048576) :
    runv E0 90 [.int .i64 p, (V.list (List.length (cs)) (List.map (V.int .i64) (cs))), .int .i64 lo, .int .i64 hi] = some ⟨true, .bool (primeB p && (decide (lo ≤ cs.length) && decide ((cs.length : Int) ≤ hi)) && cs.all (hasB p)), [.undef, .undef, .undef, .undef]⟩ := by
  have cdk : codeOk Try.f90.ntmps (Try.f90.body.getD .skip) = true := by kernel_rfl
  refine run_of_WL (fn := Try.f90) rfl Try.func90 rfl ⟨by simp [Try.ntmps90], by simp [wideA, ints], cdk, by simp [Try.f90]⟩ ?_
  have h1 := run_IsPrime p
  have h2 := run_within cs.length lo hi
  have h3 := areAll_has p cs (by omega)
  have h4 := run_length cs
  cases e1 : primeB p <;> cases e2 : (decide (lo ≤ cs.length) && decide ((cs.length : Int) ≤ hi)) <;> rw [e1] at h1 <;> rw [e2] at h2 <;> simp [go_sem, -map_replicate, -map_set, -map_append, -map_reverse, -map_take, -map_drop, -map_tail, -any_map, -all_map, -mapM_map, -map_map, bitvec_to_nat, h1, h2, h3, h4] <;> (repeat refine ⟨by kernel_rfl, by kernel_rfl, ?_⟩) <;> simp [mvcgen_simp, -map_replicate, -map_set, -map_append, -map_reverse, -map_take, -map_drop, -map_tail, -any_map, -all_map, -mapM_map, -map_map, Try.f90]
theorem run_JisList (p m : Int) (a b cs : List Int) (hc : cs.length ≤ 1048576) :
    runv E0 115 [(V.agg [V.int .i64 (p), (V.list (List.length (a)) (List.map (V.int .i64) (a))), (V.list (List.length (b)) (List.map (V.int .i64) (b)))]), (V.list (List.length (cs)) (List.map (V.int .i64) (cs))), .int .i64 m] = some ⟨true, .bool (primeB p && (decide (0 ≤ (cs.length : Int)) && decide ((cs.length : Int) ≤ m)) && cs.all (hasB p)), [.agg [.undef, .undef, .undef], .undef, .undef]⟩ := by
  have cdk : codeOk Try.f115.ntmps (Try.f115.body.getD .skip) = true := by kernel_rfl
  refine run_of_WL (fn := Try.f115) rfl Try.func115 rfl ⟨by simp [Try.ntmps115], by simp [wideA, ints], cdk, by simp [Try.f115]⟩ ?_
  have h1 := run_areNumbers p 0 m cs hc
  simp [go_sem, -map_replicate, -map_set, -map_append, -map_reverse, -map_take, -map_drop, -map_tail, -any_map, -all_map, -mapM_map, -map_map, bitvec_to_nat, h1]
  simp [mvcgen_simp, -map_replicate, -map_set, -map_append, -map_reverse, -map_take, -map_drop, -map_tail, -any_map, -all_map, -mapM_map, -map_map, Try.f115]
def okL (p : Int) (a cs : List Int) : Bool := decide ((cs.length : Int) ≤ a.length) && cs.all (hasB p)
theorem okL_mem {p : Int} {a cs : List Int} (h : okL p a cs = true) {k : Nat} (hk : k < cs.length) : 0 ≤ rdI cs k ∧ rdI cs k < p := by
  simp only [okL, Bool.and_eq_true, List.all_eq_true] at h
  have := h.2 _ (List.getElem_mem hk)
  rw [rdI_get hk] at this
  exact hasB_range this

def pairTo (p : Int) (b cs ds : List Int) : Nat → Int
  | 0 => 0
  | k + 1 => (pairTo p b cs ds k + (rdI cs k * rdI ds k) % p * nrm p b k) % p
def pairR (p : Int) (a b cs ds : List Int) : Int × Int :=
  if jacB p a b then (if okL p a cs && okL p a ds then (pairTo p b cs ds (min cs.length ds.length), 0) else (0, 2)) else (0, 1)
theorem pairTo_range {p : Int} (hp : 2 ≤ p ∧ p ≤ 10007) (b cs ds : List Int) : ∀ k, 0 ≤ pairTo p b cs ds k ∧ pairTo p b cs ds k < p
  | 0 => by show 0 ≤ (0 : Int) ∧ (0 : Int) < p; omega
  | k + 1 => mod_small hp _
theorem run_specPairLists (p : Int) (a b cs ds : List Int) (ha : a.length ≤ 1048576) (hb : b.length ≤ 1048576) (hc : cs.length ≤ 1048576) (hd : ds.length ≤ 1048576) :
    runv E0 42 [(V.agg [V.int .i64 (p), (V.list (List.length (a)) (List.map (V.int .i64) (a))), (V.list (List.length (b)) (List.map (V.int .i64) (b)))]), (V.list (List.length (cs)) (List.map (V.int .i64) (cs))), (V.list (List.length (ds)) (List.map (V.int .i64) (ds)))] = some ⟨true, .tup [.int .i64 (pairR p a b cs ds).1, .int .i64 (pairR p a b cs ds).2], [.agg [.undef, .undef, .undef], .undef, .undef]⟩ := by
  have cdk : codeOk Try.f42.ntmps (Try.f42.body.getD .skip) = true := by kernel_rfl
  refine run_of_WL (fn := Try.f42) rfl Try.func42 rfl ⟨by simp [Try.ntmps42], by simp [wideA, ints], cdk, by simp [Try.f42]⟩ ?_
  have h1 := run_l10List p a b cs 0 ha hb hc (by omega)
  have h2 := run_l10List p a b ds 0 ha hb hd (by omega)
  rw [Int.add_zero] at h1 h2
  rw [show (decide ((cs.length : Int) ≤ a.length) && cs.all (hasB p)) = okL p a cs from rfl] at h1
  rw [show (decide ((ds.length : Int) ≤ a.length) && ds.all (hasB p)) = okL p a ds from rfl] at h2
  cases e : jacB p a b with
  | false =>
    rw [e] at h1 h2
    simp only [Bool.false_eq_true, if_false] at h1 h2
    have hps : pairR p a b cs ds = (0, 1) := by simp only [pairR, e]; rfl
    simp [go_sem, -map_replicate, -map_set, -map_append, -map_reverse, -map_take, -map_drop, -map_tail, -any_map, -all_map, -mapM_map, -map_map, bitvec_to_nat, h1, h2]
    repeat refine ⟨by kernel_rfl, by kernel_rfl, ?_⟩
    simp [mvcgen_simp, -map_replicate, -map_set, -map_append, -map_reverse, -map_take, -map_drop, -map_tail, -any_map, -all_map, -mapM_map, -map_map, Try.f42, hps]
  | true =>
    rw [e] at h1 h2
    simp only [if_true] at h1 h2
    cases e1 : okL p a cs <;> cases e2 : okL p a ds <;> rw [e1] at h1 <;> rw [e2] at h2
    case true.true =>
      have h3 := run_l10Norms p a b e
      have hps : pairR p a b cs ds = (pairTo p b cs ds (min cs.length ds.length), 0) := by simp only [pairR, e, e1, e2]; rfl
      simp only [if_true] at h1 h2
      simp [go_sem, -map_replicate, -map_set, -map_append, -map_reverse, -map_take, -map_drop, -map_tail, -any_map, -all_map, -mapM_map, -map_map, bitvec_to_nat, h1, h2, h3]
      have tl := tab_len a.length (nrm p b)
      have hp := jacB_prime e
      have hl := jacB_len e
      have k1 : (cs.length : Int) ≤ a.length := by simp only [okL, Bool.and_eq_true, decide_eq_true_eq] at e1; exact e1.1
      have k2 : (ds.length : Int) ≤ a.length := by simp only [okL, Bool.and_eq_true, decide_eq_true_eq] at e2; exact e2.1
      have p0 : ¬ p = 0 := by omega
      repeat refine ⟨by kernel_rfl, by kernel_rfl, ?_⟩
      rw [WL_loop]
      refine WL_count (I := fun k st => st.fr 1 = (V.list (List.length (cs)) (List.map (V.int .i64) (cs))) ∧ st.fr 2 = (V.list (List.length (ds)) (List.map (V.int .i64) (ds))) ∧ st.fr 3 = .ptr 24 0 0 ∧ st.fr 10 = .sl 1432 0 0 a.length ∧ st.fr 11 = .int .i64 (pairTo p b cs ds k) ∧ st.fr 12 = .int .i64 (k : Int) ∧ st.H 24 = some (⟨0, 1, 1, [.int .i64 p, (V.list (List.length (a)) (List.map (V.int .i64) (a))), (V.list (List.length (b)) (List.map (V.int .i64) (b)))]⟩) ∧ st.H 1432 = some (⟨0, 2, 1, (tab a.length (nrm p b)).map (V.int .i64)⟩) ∧ 1432 < st.nx) (min cs.length ds.length) ?_ ?_ 0 _ (by omega) ?_
      · rintro k st hk ⟨hg0, hg1, hg2, hg3, hg4, hg5, hg6, hg7, hg8⟩ next
        have kc : k < cs.length := by omega
        have kd : k < ds.length := by omega
        have ka : k < a.length := by omega
        have kci : (k : Int) < cs.length := by omega
        have kdi : (k : Int) < ds.length := by omega
        have r1 := okL_mem e1 kc
        have r2 := okL_mem e2 kd
        have r3 := nrm_range e k ka
        have r4 := pairTo_range hp b cs ds k
        have rt : rdI (tab a.length (nrm p b)) k = nrm p b k := tab_rd ka
        have m1 := mul_small hp r1 r2
        have m2 := mod_small hp (rdI cs k * rdI ds k)
        have m3 := mul_small hp m2 r3
        have eS : pairTo p b cs ds (k + 1) = (pairTo p b cs ds k + (rdI cs k * rdI ds k) % p * nrm p b k) % p := rfl
        have w1 : IntKind.i64.wrap (rdI cs k * rdI ds k) = rdI cs k * rdI ds k := IntWalk.i64_in _ (by omega)
        have w2 : IntKind.i64.wrap ((rdI cs k * rdI ds k) % p * nrm p b k) = (rdI cs k * rdI ds k) % p * nrm p b k := IntWalk.i64_in _ (by omega)
        have w3 : IntKind.i64.wrap (pairTo p b cs ds k + (rdI cs k * rdI ds k) % p * nrm p b k) = pairTo p b cs ds k + (rdI cs k * rdI ds k) % p * nrm p b k := IntWalk.i64_in _ (by omega)
        have w4 : IntKind.i64.wrap ((k : Int) + 1) = (k : Int) + 1 := IntWalk.i64_in _ (by omega)
        have t1 : (rdI cs k * rdI ds k).tmod p = (rdI cs k * rdI ds k) % p := Int.tmod_eq_emod_of_nonneg (by omega)
        have t2 : (pairTo p b cs ds k + (rdI cs k * rdI ds k) % p * nrm p b k).tmod p = (pairTo p b cs ds k + (rdI cs k * rdI ds k) % p * nrm p b k) % p := Int.tmod_eq_emod_of_nonneg (by omega)
        simp [go_sem, -map_replicate, -map_set, -map_append, -map_reverse, -map_take, -map_drop, -map_tail, -any_map, -all_map, -mapM_map, -map_map, bitvec_to_nat, hg0, hg1, hg2, hg3, hg4, hg5, hg6, hg7, kc, kd, ka, kci, kdi, p0, w1, w2, w3, w4, t1, t2, tl, rt]
        repeat refine ⟨by kernel_rfl, by kernel_rfl, ?_⟩
        refine next _ ?_
        simp [upd, hg0, hg1, hg2, hg3, hg4, hg5, hg6, hg7, eS, hg8]
      · rintro st ⟨hg0, hg1, hg2, hg3, hg4, hg5, hg6, hg7, hg8⟩
        by_cases q : cs.length ≤ ds.length
        · have c1 : ¬ ((min cs.length ds.length : Nat) : Int) < cs.length := by omega
          rw [Nat.min_eq_left q] at *
          simp [go_sem, -map_replicate, -map_set, -map_append, -map_reverse, -map_take, -map_drop, -map_tail, -any_map, -all_map, -mapM_map, -map_map, bitvec_to_nat, hg0, hg1, hg2, hg3, hg4, hg5, hg6, hg7]
          simp [mvcgen_simp, -map_replicate, -map_set, -map_append, -map_reverse, -map_take, -map_drop, -map_tail, -any_map, -all_map, -mapM_map, -map_map, Try.f42, hps]
        · have c1 : min cs.length ds.length = ds.length := by omega
          have c2 : ds.length < cs.length := by omega
          rw [c1] at hg4 hg5 hps
          simp [go_sem, -map_replicate, -map_set, -map_append, -map_reverse, -map_take, -map_drop, -map_tail, -any_map, -all_map, -mapM_map, -map_map, bitvec_to_nat, hg0, hg1, hg2, hg3, hg4, hg5, hg6, hg7, c2]
          simp [mvcgen_simp, -map_replicate, -map_set, -map_append, -map_reverse, -map_take, -map_drop, -map_tail, -any_map, -all_map, -mapM_map, -map_map, Try.f42, hps]
      · refine ⟨rfl, rfl, rfl, rfl, rfl, rfl, rfl, rfl, by simp⟩
    all_goals
      have hps : pairR p a b cs ds = (0, 2) := by simp only [pairR, e, e1, e2]; rfl
      simp only [Bool.false_eq_true, if_false, if_true] at h1 h2
      simp [go_sem, -map_replicate, -map_set, -map_append, -map_reverse, -map_take, -map_drop, -map_tail, -any_map, -all_map, -mapM_map, -map_map, bitvec_to_nat, h1, h2]
      repeat refine ⟨by kernel_rfl, by kernel_rfl, ?_⟩
      simp [mvcgen_simp, -map_replicate, -map_set, -map_append, -map_reverse, -map_take, -map_drop, -map_tail, -any_map, -all_map, -mapM_map, -map_map, Try.f42, hps]

theorem run_implPairLists (p : Int) (a b cs ds : List Int) (ha : a.length ≤ 1048576) (hb : b.length ≤ 1048576) (hc : cs.length ≤ 1048576) (hd : ds.length ≤ 1048576) :
    runv E0 41 [(V.agg [V.int .i64 (p), (V.list (List.length (a)) (List.map (V.int .i64) (a))), (V.list (List.length (b)) (List.map (V.int .i64) (b)))]), (V.list (List.length (cs)) (List.map (V.int .i64) (cs))), (V.list (List.length (ds)) (List.map (V.int .i64) (ds)))] = some ⟨true, .tup [.int .i64 (pairR p a b cs ds).1, .int .i64 (pairR p a b cs ds).2], [.agg [.undef, .undef, .undef], .undef, .undef]⟩ := by
  have cdk : codeOk Try.f41.ntmps (Try.f41.body.getD .skip) = true := by kernel_rfl
  refine run_of_WL (fn := Try.f41) rfl Try.func41 rfl ⟨by simp [Try.ntmps41], by simp [wideA, ints], cdk, by simp [Try.f41]⟩ ?_
  have h1 := run_JisList p a.length a b cs hc
  have h2 := run_JisList p a.length a b ds hd
  have h5 := run_Jsize p a b
  rw [show (primeB p && (decide (0 ≤ (cs.length : Int)) && decide ((cs.length : Int) ≤ a.length)) && cs.all (hasB p)) = (primeB p && okL p a cs) by simp [okL, Bool.and_assoc]] at h1
  rw [show (primeB p && (decide (0 ≤ (ds.length : Int)) && decide ((ds.length : Int) ≤ a.length)) && ds.all (hasB p)) = (primeB p && okL p a ds) by simp [okL, Bool.and_assoc]] at h2
  have h3 := run_jacobiCode p a b ((primeB p && okL p a cs) && (primeB p && okL p a ds)) (by omega) (by omega)
  cases e : jacB p a b with
  | false =>
    rw [e] at h3
    simp only [Bool.false_eq_true, if_false] at h3
    have hps : pairR p a b cs ds = (0, 1) := by simp only [pairR, e]; rfl
    cases x1 : (primeB p && okL p a cs) <;> cases x2 : (primeB p && okL p a ds) <;> rw [x1] at h1 h3 <;> rw [x2] at h2 h3 <;> simp only [Bool.and_true, Bool.and_false] at h3 <;> simp [go_sem, -map_replicate, -map_set, -map_append, -map_reverse, -map_take, -map_drop, -map_tail, -any_map, -all_map, -mapM_map, -map_map, bitvec_to_nat, h1, h2, h3, h5] <;> (repeat refine ⟨by kernel_rfl, by kernel_rfl, ?_⟩) <;> simp [mvcgen_simp, -map_replicate, -map_set, -map_append, -map_reverse, -map_take, -map_drop, -map_tail, -any_map, -all_map, -mapM_map, -map_map, Try.f41, hps]
  | true =>
    have ep : primeB p = true := by
      cases x : primeB p
      · simp [jacB, x] at e
      · rfl
    rw [e] at h3
    rw [ep] at h1 h2 h3
    simp only [if_true, Bool.true_and] at h1 h2 h3
    cases e1 : okL p a cs <;> cases e2 : okL p a ds <;> rw [e1] at h1 h3 <;> rw [e2] at h2 h3 <;> simp only [Bool.and_true, Bool.and_false, Bool.false_eq_true, if_false, if_true] at h3
    case true.true =>
      have h4 := run_Jnorms p a b e
      have hps : pairR p a b cs ds = (pairTo p b cs ds (min cs.length ds.length), 0) := by simp only [pairR, e, e1, e2]; rfl
      have mm : mmV mnI [V.int .i64 cs.length, V.int .i64 ds.length] = some (V.int .i64 (min cs.length ds.length : Nat)) := by
        simp [mmV, mnI]
        split <;> omega
      have tl := tab_len a.length (nrm p b)
      have hp := jacB_prime e
      have hl := jacB_len e
      have k1 : (cs.length : Int) ≤ a.length := by simp only [okL, Bool.and_eq_true, decide_eq_true_eq] at e1; exact e1.1
      have k2 : (ds.length : Int) ≤ a.length := by simp only [okL, Bool.and_eq_true, decide_eq_true_eq] at e2; exact e2.1
      have p0 : ¬ p = 0 := by omega
      simp [go_sem, -map_replicate, -map_set, -map_append, -map_reverse, -map_take, -map_drop, -map_tail, -any_map, -all_map, -mapM_map, -map_map, bitvec_to_nat, h1, h2, h3, h4, h5, mm]
      repeat refine ⟨by kernel_rfl, by kernel_rfl, ?_⟩
      rw [WL_loop]
      refine WL_count (I := fun k st => st.fr 1 = (V.list (List.length (cs)) (List.map (V.int .i64) (cs))) ∧ st.fr 2 = (V.list (List.length (ds)) (List.map (V.int .i64) (ds))) ∧ st.fr 3 = .ptr 24 0 0 ∧ st.fr 9 = .int .i64 (pairTo p b cs ds k) ∧ st.fr 10 = .sl 1432 0 0 a.length ∧ st.fr 36 = .int .i64 (k : Int) ∧ st.H 24 = some (⟨0, 1, 1, [.int .i64 p, (V.list (List.length (a)) (List.map (V.int .i64) (a))), (V.list (List.length (b)) (List.map (V.int .i64) (b)))]⟩) ∧ st.H 1432 = some (⟨0, 2, 1, (tab a.length (nrm p b)).map (V.int .i64)⟩) ∧ 1432 < st.nx ∧ st.fr 35 = .int .i64 ((min cs.length ds.length : Nat) : Int)) (min cs.length ds.length) ?_ ?_ 0 _ (by omega) ?_
      · rintro k st hk ⟨hg0, hg1, hg2, hg3, hg4, hg5, hg6, hg7, hg8, hg9⟩ next
        have kc : k < cs.length := by omega
        have kd : k < ds.length := by omega
        have ka : k < a.length := by omega
        have kci : (k : Int) < cs.length := by omega
        have kdi : (k : Int) < ds.length := by omega
        have r1 := okL_mem e1 kc
        have r2 := okL_mem e2 kd
        have r3 := nrm_range e k ka
        have r4 := pairTo_range hp b cs ds k
        have rt : rdI (tab a.length (nrm p b)) k = nrm p b k := tab_rd ka
        have m1 := mul_small hp r1 r2
        have m2 := mod_small hp (rdI cs k * rdI ds k)
        have m3 := mul_small hp m2 r3
        have eS : pairTo p b cs ds (k + 1) = (pairTo p b cs ds k + (rdI cs k * rdI ds k) % p * nrm p b k) % p := rfl
        have w1 : IntKind.i64.wrap (rdI cs k * rdI ds k) = rdI cs k * rdI ds k := IntWalk.i64_in _ (by omega)
        have w2 : IntKind.i64.wrap ((rdI cs k * rdI ds k) % p * nrm p b k) = (rdI cs k * rdI ds k) % p * nrm p b k := IntWalk.i64_in _ (by omega)
        have w3 : IntKind.i64.wrap (pairTo p b cs ds k + (rdI cs k * rdI ds k) % p * nrm p b k) = pairTo p b cs ds k + (rdI cs k * rdI ds k) % p * nrm p b k := IntWalk.i64_in _ (by omega)
        have w4 : IntKind.i64.wrap ((k : Int) + 1) = (k : Int) + 1 := IntWalk.i64_in _ (by omega)
        have g1 := run_Jfield p a b
        have g2 := run_mul p (rdI cs k) (rdI ds k) hp w1
        have g3 := run_mod p (pairTo p b cs ds k + (rdI cs k * rdI ds k) % p * nrm p b k) hp
        simp [go_sem, -map_replicate, -map_set, -map_append, -map_reverse, -map_take, -map_drop, -map_tail, -any_map, -all_map, -mapM_map, -map_map, bitvec_to_nat, hg0, hg1, hg2, hg3, hg4, hg5, hg6, hg7, hg9, hk, kc, kd, ka, kci, kdi, w1, w2, w3, w4, g1, g2, g3, tl, rt]
        repeat refine ⟨by kernel_rfl, by kernel_rfl, ?_⟩
        refine next _ ?_
        simp [upd, hg0, hg1, hg2, hg3, hg4, hg5, hg6, hg7, hg9, eS, hg8]
      · rintro st ⟨hg0, hg1, hg2, hg3, hg4, hg5, hg6, hg7, hg8, hg9⟩
        generalize hM : min cs.length ds.length = M at *
        simp [go_sem, -map_replicate, -map_set, -map_append, -map_reverse, -map_take, -map_drop, -map_tail, -any_map, -all_map, -mapM_map, -map_map, bitvec_to_nat, hg0, hg1, hg2, hg3, hg4, hg5, hg6, hg7, hg9]
        simp [mvcgen_simp, -map_replicate, -map_set, -map_append, -map_reverse, -map_take, -map_drop, -map_tail, -any_map, -all_map, -mapM_map, -map_map, Try.f41, hps]
      · refine ⟨rfl, rfl, rfl, rfl, rfl, rfl, rfl, rfl, by simp, rfl⟩
    all_goals
      have hps : pairR p a b cs ds = (0, 2) := by simp only [pairR, e, e1, e2]; rfl
      simp [go_sem, -map_replicate, -map_set, -map_append, -map_reverse, -map_take, -map_drop, -map_tail, -any_map, -all_map, -mapM_map, -map_map, bitvec_to_nat, h1, h2, h3, h5]
      repeat refine ⟨by kernel_rfl, by kernel_rfl, ?_⟩
      simp [mvcgen_simp, -map_replicate, -map_set, -map_append, -map_reverse, -map_take, -map_drop, -map_tail, -any_map, -all_map, -mapM_map, -map_map, Try.f41, hps]


end Go.Proofs.Ytacfkfdnncgjcaa.Ev
