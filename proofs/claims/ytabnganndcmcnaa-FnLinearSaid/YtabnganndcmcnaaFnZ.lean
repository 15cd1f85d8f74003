/- PathSum: both texts and the law. Conditions: none. -/
import Derived.Test.YtabnganndcmcnaaFnV
set_option linter.unusedSimpArgs false
set_option linter.unusedVariables false
namespace Go.Proofs.Ytabnganndcmcnaa.Ev
open Go Go.Proofs
open List (map_replicate map_set map_append map_reverse map_take map_drop map_tail any_map all_map mapM_map map_map)
set_option maxRecDepth 4000
set_option maxHeartbeats 4000000

/-- The sums of the paths of a length from a height. -/
def inH (a : List Int) (x : Int) : Bool := decide (0 ≤ x) && decide (x < a.length)
def fromJ (p : Int) (a b : List Int) (r i n : Nat) : List Int := wkJ p a b r ((List.replicate r 0).set i 1) n
theorem fromJ_len (p : Int) (a b : List Int) (r i n : Nat) : (fromJ p a b r i n).length = r := wkJ_len _ _ _ _ _ (by simp) _
theorem start_fine {p : Int} (hp : 2 ≤ p ∧ p ≤ 10007) (r i : Nat) : fine p ((List.replicate r 0).set i 1) := by
  intro j
  by_cases hj : j < r
  · rw [rdI_set (by simpa using hj)]
    split
    · omega
    · have : rdI (List.replicate r (0 : Int)) j = 0 := by
        simp [rdI, List.getD_eq_getElem?_getD, List.getElem?_replicate]; split <;> rfl
      rw [this]; omega
  · have : rdI ((List.replicate r (0 : Int)).set i 1) j = 0 := by simp [rdI, hj]
    rw [this]; omega
theorem all_noU_int {k : IntKind} (l : List Int) : (l.map (V.int k)).all (fun c => !hasU c) = true := all_leaf (fun _ => rfl) l

theorem run_from (p : Int) (a b : List Int) (n i r : Nat) (h : jacB p a b = true) (hi : i < r) (hr : r ≤ a.length) (hn : n ≤ 1000000) :
    runv E0 175 [(V.agg [V.int .i64 (p), (V.list (List.length (a)) (List.map (V.int .i64) (a))), (V.list (List.length (b)) (List.map (V.int .i64) (b)))]), .int .i64 (n : Int), .int .i64 (i : Int), .int .i64 (r : Int)] = some ⟨true, .uniq 1 r ((fromJ p a b r i n).map (V.int .i64)), [.agg [.undef, .undef, .undef], .undef, .undef, .undef]⟩ := by
  have cdk : codeOk Try.f175.ntmps (Try.f175.body.getD .skip) = true := by kernel_rfl
  refine run_of_WL (fn := Try.f175) rfl Try.func175 rfl ⟨by simp [Try.ntmps175], by simp [wideA, ints], cdk, by simp [Try.f175]⟩ ?_
  have hp := jacB_prime h
  have hl := jacB_len h
  have h1 := run_mod p 1 hp
  rw [Int.emod_eq_of_lt (by omega) (by omega)] at h1
  have h2 := run_walk p a b ((List.replicate r 0).set i 1) n r h (by simp) (by omega) hr (start_fine hp r i) hn
  have c1 : r * 8 ≤ 140737488355328 := by omega
  have c2 : (r : Int) ≤ 9223372036854775807 := by omega
  have lf := fromJ_len p a b r i n
  rw [show wkJ p a b r ((List.replicate r 0).set i 1) n = fromJ p a b r i n from rfl] at h2
  by_cases h0 : n = 0
  · subst h0
    simp only [if_true] at h2
    rw [show (((0 : Nat)) : Int) = 0 from rfl] at h2
    simp [go_sem, -map_replicate, -map_set, -map_append, -map_reverse, -map_take, -map_drop, -map_tail, -any_map, -all_map, -mapM_map, -map_map, slL, szI, ldI, zI, undL, apL, setI, rdI_get, Nat.add_one_le_iff, fillV, zeros1, zeros0, appendD, segV, lvO, goneOf, sliceD, bound, Nat.add_assoc, szL, ldL, setCs0, setCs1, setCs2, setCsA2, setCsA3, ldM, fM0, fM1, szM, zM, plM0, plM1, agM, paM, ldJ, fJ0, fJ1, fJ2, szJ, zJ, plJ0, plJ1, plJ2, agJ, paJ, run_Jfield, h1, hi, c1, c2, zerosI, h2, all_noU_int, lf]
    simp [mvcgen_simp, -map_replicate, -map_set, -map_append, -map_reverse, -map_take, -map_drop, -map_tail, -any_map, -all_map, -mapM_map, -map_map, Try.f175, lf]
  · simp only [h0, if_false] at h2
    simp [go_sem, -map_replicate, -map_set, -map_append, -map_reverse, -map_take, -map_drop, -map_tail, -any_map, -all_map, -mapM_map, -map_map, slL, szI, ldI, zI, undL, apL, setI, rdI_get, Nat.add_one_le_iff, fillV, zeros1, zeros0, appendD, segV, lvO, goneOf, sliceD, bound, Nat.add_assoc, szL, ldL, setCs0, setCs1, setCs2, setCsA2, setCsA3, ldM, fM0, fM1, szM, zM, plM0, plM1, agM, paM, ldJ, fJ0, fJ1, fJ2, szJ, zJ, plJ0, plJ1, plJ2, agJ, paJ, run_Jfield, h1, hi, c1, c2, zerosI, h2, all_noU_int, lf]
    simp [mvcgen_simp, -map_replicate, -map_set, -map_append, -map_reverse, -map_take, -map_drop, -map_tail, -any_map, -all_map, -mapM_map, -map_map, Try.f175, lf]

theorem run_l09Code (p : Int) (a b cs : List Int) (n : Int) (ha : a.length ≤ 1048576) (hb : b.length ≤ 1048576) (hc : cs.length ≤ 1000) :
    runv E0 173 [(V.agg [V.int .i64 (p), (V.list (List.length (a)) (List.map (V.int .i64) (a))), (V.list (List.length (b)) (List.map (V.int .i64) (b)))]), .int .i64 n, (V.list (List.length (cs)) (List.map (V.int .i64) (cs)))] = some ⟨true, .int .i64 (if jacB p a b then (if (decide (0 ≤ n) && decide (n ≤ 24)) && cs.all (inH a) then 0 else 2) else 1), [.agg [.undef, .undef, .undef], .undef, .undef]⟩ := by
  have cdk : codeOk Try.f173.ntmps (Try.f173.body.getD .skip) = true := by kernel_rfl
  refine run_of_WL (fn := Try.f173) rfl Try.func173 rfl ⟨by simp [Try.ntmps173], by simp [wideA, ints], cdk, by simp [Try.f173]⟩ ?_
  have h1 := run_l03Is p a b (by omega) (by omega)
  have h2 := run_l01In' n 0 24
  cases e : jacB p a b with
  | false =>
    rw [e] at h1
    simp [go_sem, -map_replicate, -map_set, -map_append, -map_reverse, -map_take, -map_drop, -map_tail, -any_map, -all_map, -mapM_map, -map_map, slL, szI, ldI, zI, undL, apL, setI, rdI_get, Nat.add_one_le_iff, fillV, zeros1, zeros0, appendD, segV, lvO, goneOf, sliceD, bound, Nat.add_assoc, szL, ldL, setCs0, setCs1, setCs2, setCsA2, setCsA3, ldM, fM0, fM1, szM, zM, plM0, plM1, agM, paM, ldJ, fJ0, fJ1, fJ2, szJ, zJ, plJ0, plJ1, plJ2, agJ, paJ, h1]
    simp [mvcgen_simp, -map_replicate, -map_set, -map_append, -map_reverse, -map_take, -map_drop, -map_tail, -any_map, -all_map, -mapM_map, -map_map, Try.f173]
  | true =>
    rw [e] at h1
    cases e2 : (decide (0 ≤ n) && decide (n ≤ 24)) with
    | false =>
      rw [e2] at h2
      simp [go_sem, -map_replicate, -map_set, -map_append, -map_reverse, -map_take, -map_drop, -map_tail, -any_map, -all_map, -mapM_map, -map_map, slL, szI, ldI, zI, undL, apL, setI, rdI_get, Nat.add_one_le_iff, fillV, zeros1, zeros0, appendD, segV, lvO, goneOf, sliceD, bound, Nat.add_assoc, szL, ldL, setCs0, setCs1, setCs2, setCsA2, setCsA3, ldM, fM0, fM1, szM, zM, plM0, plM1, agM, paM, ldJ, fJ0, fJ1, fJ2, szJ, zJ, plJ0, plJ1, plJ2, agJ, paJ, h1, h2]
      simp [mvcgen_simp, -map_replicate, -map_set, -map_append, -map_reverse, -map_take, -map_drop, -map_tail, -any_map, -all_map, -mapM_map, -map_map, Try.f173]
    | true =>
      rw [e2] at h2
      have w : IntKind.i64.wrap ((a.length : Int) - 1) = (a.length : Int) - 1 := IntWalk.i64_in _ (by omega)
      simp [go_sem, -map_replicate, -map_set, -map_append, -map_reverse, -map_take, -map_drop, -map_tail, -any_map, -all_map, -mapM_map, -map_map, slL, szI, ldI, zI, undL, apL, setI, rdI_get, Nat.add_one_le_iff, fillV, zeros1, zeros0, appendD, segV, lvO, goneOf, sliceD, bound, Nat.add_assoc, szL, ldL, setCs0, setCs1, setCs2, setCsA2, setCsA3, ldM, fM0, fM1, szM, zM, plM0, plM1, agM, paM, ldJ, fJ0, fJ1, fJ2, szJ, zJ, plJ0, plJ1, plJ2, agJ, paJ, h1, h2]
      rw [WL_loop]
      refine WL_count (I := fun i st => st.fr 2 = (V.list (List.length (cs)) (List.map (V.int .i64) (cs))) ∧ st.fr 3 = .ptr 24 0 0 ∧ st.fr 7 = .int .i64 i ∧ st.H 24 = some (⟨0, 1, 1, [.int .i64 p, (V.list (List.length (a)) (List.map (V.int .i64) (a))), (V.list (List.length (b)) (List.map (V.int .i64) (b)))]⟩) ∧ (∀ j, j < i → inH a (rdI cs j) = true)) cs.length ?_ ?_ 0 _ (by omega) ?_
      · rintro i st hi ⟨he0, he1, he2, he3, he4⟩ next
        have w1 : IntKind.i64.wrap ((i : Int) + 1) = (i : Int) + 1 := IntWalk.i64_in _ (by omega)
        have h3 := run_l01In' (rdI cs i) 0 ((a.length : Int) - 1)
        rw [show (decide (0 ≤ rdI cs i) && decide (rdI cs i ≤ (a.length : Int) - 1)) = inH a (rdI cs i) by unfold inH; congr 1; rw [decide_eq_decide]; omega] at h3
        cases x : inH a (rdI cs i) with
        | true =>
          rw [x] at h3
          simp [go_sem, -map_replicate, -map_set, -map_append, -map_reverse, -map_take, -map_drop, -map_tail, -any_map, -all_map, -mapM_map, -map_map, slL, szI, ldI, zI, undL, apL, setI, rdI_get, Nat.add_one_le_iff, fillV, zeros1, zeros0, appendD, segV, lvO, goneOf, sliceD, bound, Nat.add_assoc, szL, ldL, setCs0, setCs1, setCs2, setCsA2, setCsA3, ldM, fM0, fM1, szM, zM, plM0, plM1, agM, paM, ldJ, fJ0, fJ1, fJ2, szJ, zJ, plJ0, plJ1, plJ2, agJ, paJ, he0, he1, he2, he3, hi, w, w1, h3]
          refine ⟨by kernel_rfl, by kernel_rfl, next _ ?_⟩
          simp [upd, he0, he1, he2, he3]
          intro j hj
          by_cases hij : j = i
          · subst hij; exact x
          · exact he4 j (by omega)
        | false =>
          rw [x] at h3
          have hall : cs.all (inH a) = false := by
            rw [List.all_eq_false]
            exact ⟨_, List.getElem_mem hi, by rw [rdI_get hi, x]; simp⟩
          simp [go_sem, -map_replicate, -map_set, -map_append, -map_reverse, -map_take, -map_drop, -map_tail, -any_map, -all_map, -mapM_map, -map_map, slL, szI, ldI, zI, undL, apL, setI, rdI_get, Nat.add_one_le_iff, fillV, zeros1, zeros0, appendD, segV, lvO, goneOf, sliceD, bound, Nat.add_assoc, szL, ldL, setCs0, setCs1, setCs2, setCsA2, setCsA3, ldM, fM0, fM1, szM, zM, plM0, plM1, agM, paM, ldJ, fJ0, fJ1, fJ2, szJ, zJ, plJ0, plJ1, plJ2, agJ, paJ, he0, he1, he2, he3, hi, w, w1, h3]
          refine ⟨by kernel_rfl, by kernel_rfl, ?_⟩
          simp [mvcgen_simp, -map_replicate, -map_set, -map_append, -map_reverse, -map_take, -map_drop, -map_tail, -any_map, -all_map, -mapM_map, -map_map, Try.f173]
          exact ⟨_, List.getElem_mem hi, by rw [rdI_get hi, x]⟩
      · rintro st ⟨he0, he1, he2, he3, he4⟩
        have hall : cs.all (inH a) = true := by
          rw [List.all_eq_true]
          intro x hx
          obtain ⟨j, hj, rfl⟩ := List.getElem_of_mem hx
          rw [rdI_get hj]; exact he4 j hj
        simp [go_sem, -map_replicate, -map_set, -map_append, -map_reverse, -map_take, -map_drop, -map_tail, -any_map, -all_map, -mapM_map, -map_map, slL, szI, ldI, zI, undL, apL, setI, rdI_get, Nat.add_one_le_iff, fillV, zeros1, zeros0, appendD, segV, lvO, goneOf, sliceD, bound, Nat.add_assoc, szL, ldL, setCs0, setCs1, setCs2, setCsA2, setCsA3, ldM, fM0, fM1, szM, zM, plM0, plM1, agM, paM, ldJ, fJ0, fJ1, fJ2, szJ, zJ, plJ0, plJ1, plJ2, agJ, paJ, he0, he1, he2, he3]
        simp [mvcgen_simp, -map_replicate, -map_set, -map_append, -map_reverse, -map_take, -map_drop, -map_tail, -any_map, -all_map, -mapM_map, -map_map, Try.f173]
        exact fun x hx => List.all_eq_true.1 hall x hx
      · refine ⟨rfl, rfl, rfl, rfl, by omega⟩

def psum (p : Int) (a b : List Int) (n i k : Int) : Int × Int :=
  if jacB p a b then (if (decide (0 ≤ n) && decide (n ≤ 24)) && (inH a i && inH a k) then (rdI (fromJ p a b a.length i.toNat n.toNat) k.toNat, 0) else (0, 2)) else (0, 1)
theorem run_specPathSum (p : Int) (a b : List Int) (n i k : Int) (ha : a.length ≤ 1048576) (hb : b.length ≤ 1048576) :
    runv E0 69 [(V.agg [V.int .i64 (p), (V.list (List.length (a)) (List.map (V.int .i64) (a))), (V.list (List.length (b)) (List.map (V.int .i64) (b)))]), .int .i64 n, .int .i64 i, .int .i64 k] = some ⟨true, .tup [.int .i64 (psum p a b n i k).1, .int .i64 (psum p a b n i k).2], [.agg [.undef, .undef, .undef], .undef, .undef, .undef]⟩ := by
  have cdk : codeOk Try.f69.ntmps (Try.f69.body.getD .skip) = true := by kernel_rfl
  refine run_of_WL (fn := Try.f69) rfl Try.func69 rfl ⟨by simp [Try.ntmps69], by simp [wideA, ints], cdk, by simp [Try.f69]⟩ ?_
  have h1 : runv E0 173 [(V.agg [V.int .i64 (p), (V.list (List.length (a)) (List.map (V.int .i64) (a))), (V.list (List.length (b)) (List.map (V.int .i64) (b)))]), .int .i64 n, .list 2 [.int .i64 i, .int .i64 k]] = some ⟨true, .int .i64 (if jacB p a b then (if (decide (0 ≤ n) && decide (n ≤ 24)) && (inH a i && inH a k) then 0 else 2) else 1), [.agg [.undef, .undef, .undef], .undef, .undef]⟩ := by
    have := run_l09Code p a b [i, k] n ha hb (by simp)
    simpa [Bool.and_assoc] using this
  have z2 : zerosV 2 [V.int .i64 0] = [.int .i64 0, .int .i64 0] := rfl
  cases e : jacB p a b with
  | false =>
    rw [e] at h1
    simp only [Bool.false_eq_true, if_false] at h1
    simp [go_sem, -map_replicate, -map_set, -map_append, -map_reverse, -map_take, -map_drop, -map_tail, -any_map, -all_map, -mapM_map, -map_map, slL, szI, ldI, zI, undL, apL, setI, rdI_get, Nat.add_one_le_iff, fillV, zeros1, zeros0, appendD, segV, lvO, goneOf, sliceD, bound, Nat.add_assoc, szL, ldL, setCs0, setCs1, setCs2, setCsA2, setCsA3, ldM, fM0, fM1, szM, zM, plM0, plM1, agM, paM, ldJ, fJ0, fJ1, fJ2, szJ, zJ, plJ0, plJ1, plJ2, agJ, paJ, h1, z2]
    simp [mvcgen_simp, -map_replicate, -map_set, -map_append, -map_reverse, -map_take, -map_drop, -map_tail, -any_map, -all_map, -mapM_map, -map_map, Try.f69, psum, e]
  | true =>
    rw [e] at h1
    cases e2 : ((decide (0 ≤ n) && decide (n ≤ 24)) && (inH a i && inH a k)) with
    | false =>
      rw [e2] at h1
      simp only [Bool.false_eq_true, if_false, if_true] at h1
      have hps : psum p a b n i k = (0, 2) := by simp only [psum, e, e2]; rfl
      simp [go_sem, -map_replicate, -map_set, -map_append, -map_reverse, -map_take, -map_drop, -map_tail, -any_map, -all_map, -mapM_map, -map_map, slL, szI, ldI, zI, undL, apL, setI, rdI_get, Nat.add_one_le_iff, fillV, zeros1, zeros0, appendD, segV, lvO, goneOf, sliceD, bound, Nat.add_assoc, szL, ldL, setCs0, setCs1, setCs2, setCsA2, setCsA3, ldM, fM0, fM1, szM, zM, plM0, plM1, agM, paM, ldJ, fJ0, fJ1, fJ2, szJ, zJ, plJ0, plJ1, plJ2, agJ, paJ, h1, z2]
      simp [mvcgen_simp, -map_replicate, -map_set, -map_append, -map_reverse, -map_take, -map_drop, -map_tail, -any_map, -all_map, -mapM_map, -map_map, Try.f69, hps]
    | true =>
      rw [e2] at h1
      simp only [if_true] at h1
      have hps : psum p a b n i k = (rdI (fromJ p a b a.length i.toNat n.toNat) k.toNat, 0) := by simp only [psum, e, e2]; rfl
      simp only [inH, Bool.and_eq_true, decide_eq_true_eq] at e2
      obtain ⟨N, rfl⟩ : ∃ N : Nat, n = N := ⟨n.toNat, by omega⟩
      obtain ⟨I, rfl⟩ : ∃ I : Nat, i = I := ⟨i.toNat, by omega⟩
      obtain ⟨K, rfl⟩ : ∃ K : Nat, k = K := ⟨k.toNat, by omega⟩
      have h2 := run_l09Sums p a b N I a.length e (by omega) (Nat.le_refl _) (by omega)
      rw [show wkJ p a b a.length ((List.replicate a.length 0).set I 1) N = fromJ p a b a.length I N from rfl] at h2
      have lf := fromJ_len p a b a.length I N
      rw [lf] at h2
      have hK : K < a.length := by omega
      simp [go_sem, -map_replicate, -map_set, -map_append, -map_reverse, -map_take, -map_drop, -map_tail, -any_map, -all_map, -mapM_map, -map_map, slL, szI, ldI, zI, undL, apL, setI, rdI_get, Nat.add_one_le_iff, fillV, zeros1, zeros0, appendD, segV, lvO, goneOf, sliceD, bound, Nat.add_assoc, szL, ldL, setCs0, setCs1, setCs2, setCsA2, setCsA3, ldM, fM0, fM1, szM, zM, plM0, plM1, agM, paM, ldJ, fJ0, fJ1, fJ2, szJ, zJ, plJ0, plJ1, plJ2, agJ, paJ, h1, h2, z2, hK, lf]
      simp [mvcgen_simp, -map_replicate, -map_set, -map_append, -map_reverse, -map_take, -map_drop, -map_tail, -any_map, -all_map, -mapM_map, -map_map, Try.f69, hps]
theorem run_implPathSum (p : Int) (a b : List Int) (n i k : Int) (ha : a.length ≤ 1048576) (hb : b.length ≤ 1048576) :
    runv E0 63 [(V.agg [V.int .i64 (p), (V.list (List.length (a)) (List.map (V.int .i64) (a))), (V.list (List.length (b)) (List.map (V.int .i64) (b)))]), .int .i64 n, .int .i64 i, .int .i64 k] = some ⟨true, .tup [.int .i64 (psum p a b n i k).1, .int .i64 (psum p a b n i k).2], [.agg [.undef, .undef, .undef], .undef, .undef, .undef]⟩ := by
  have cdk : codeOk Try.f63.ntmps (Try.f63.body.getD .skip) = true := by kernel_rfl
  refine run_of_WL (fn := Try.f63) rfl Try.func63 rfl ⟨by simp [Try.ntmps63], by simp [wideA, ints], cdk, by simp [Try.f63]⟩ ?_
  have w : IntKind.i64.wrap ((a.length : Int) - 1) = (a.length : Int) - 1 := IntWalk.i64_in _ (by omega)
  have g1 := run_isLength n
  have gi := run_within i 0 ((a.length : Int) - 1)
  have gk := run_within k 0 ((a.length : Int) - 1)
  rw [show (decide (0 ≤ i) && decide (i ≤ (a.length : Int) - 1)) = inH a i by unfold inH; congr 1; rw [decide_eq_decide]; omega] at gi
  rw [show (decide (0 ≤ k) && decide (k ≤ (a.length : Int) - 1)) = inH a k by unfold inH; congr 1; rw [decide_eq_decide]; omega] at gk
  have h5 := run_Jsize p a b
  cases e0 : (decide (0 ≤ n) && decide (n ≤ 24)) <;> cases ei : inH a i <;> cases ek : inH a k <;> rw [e0] at g1 <;> rw [ei] at gi <;> rw [ek] at gk
  case true.true.true =>
    have h1 := run_jacobiCode p a b true (by omega) (by omega)
    cases e : jacB p a b with
    | false =>
      rw [e] at h1
      simp only [Bool.false_eq_true, if_false] at h1
      have hps : psum p a b n i k = (0, 1) := by simp only [psum, e]; rfl
      simp [go_sem, -map_replicate, -map_set, -map_append, -map_reverse, -map_take, -map_drop, -map_tail, -any_map, -all_map, -mapM_map, -map_map, slL, szI, ldI, zI, undL, apL, setI, rdI_get, Nat.add_one_le_iff, fillV, zeros1, zeros0, appendD, segV, lvO, goneOf, sliceD, bound, Nat.add_assoc, szL, ldL, setCs0, setCs1, setCs2, setCsA2, setCsA3, ldM, fM0, fM1, szM, zM, plM0, plM1, agM, paM, ldJ, fJ0, fJ1, fJ2, szJ, zJ, plJ0, plJ1, plJ2, agJ, paJ, g1, gi, gk, w, h5, h1]
      repeat refine ⟨by kernel_rfl, by kernel_rfl, ?_⟩
      simp [mvcgen_simp, -map_replicate, -map_set, -map_append, -map_reverse, -map_take, -map_drop, -map_tail, -any_map, -all_map, -mapM_map, -map_map, Try.f63, hps]
    | true =>
      rw [e] at h1
      simp only [if_true] at h1
      have hps : psum p a b n i k = (rdI (fromJ p a b a.length i.toNat n.toNat) k.toNat, 0) := by simp only [psum, e, e0, ei, ek]; rfl
      simp only [inH, Bool.and_eq_true, decide_eq_true_eq] at e0 ei ek
      obtain ⟨N, rfl⟩ : ∃ N : Nat, n = N := ⟨n.toNat, by omega⟩
      obtain ⟨I, rfl⟩ : ∃ I : Nat, i = I := ⟨i.toNat, by omega⟩
      obtain ⟨K, rfl⟩ : ∃ K : Nat, k = K := ⟨k.toNat, by omega⟩
      have h2 := run_from p a b N I a.length e (by omega) (Nat.le_refl _) (by omega)
      have lf := fromJ_len p a b a.length I N
      have hK : K < a.length := by omega
      simp [go_sem, -map_replicate, -map_set, -map_append, -map_reverse, -map_take, -map_drop, -map_tail, -any_map, -all_map, -mapM_map, -map_map, slL, szI, ldI, zI, undL, apL, setI, rdI_get, Nat.add_one_le_iff, fillV, zeros1, zeros0, appendD, segV, lvO, goneOf, sliceD, bound, Nat.add_assoc, szL, ldL, setCs0, setCs1, setCs2, setCsA2, setCsA3, ldM, fM0, fM1, szM, zM, plM0, plM1, agM, paM, ldJ, fJ0, fJ1, fJ2, szJ, zJ, plJ0, plJ1, plJ2, agJ, paJ, g1, gi, gk, w, h5, h1, h2, hK, lf]
      repeat refine ⟨by kernel_rfl, by kernel_rfl, ?_⟩
      simp [mvcgen_simp, -map_replicate, -map_set, -map_append, -map_reverse, -map_take, -map_drop, -map_tail, -any_map, -all_map, -mapM_map, -map_map, Try.f63, hps]
  all_goals
    have h1 := run_jacobiCode p a b false (by omega) (by omega)
    have hps : psum p a b n i k = (0, if jacB p a b then 2 else 1) := by
      simp only [psum, e0, ei, ek]
      cases jacB p a b <;> rfl
    cases e : jacB p a b <;> rw [e] at h1 hps <;> simp only [Bool.false_eq_true, if_false, if_true] at h1 hps <;> simp [go_sem, -map_replicate, -map_set, -map_append, -map_reverse, -map_take, -map_drop, -map_tail, -any_map, -all_map, -mapM_map, -map_map, slL, szI, ldI, zI, undL, apL, setI, rdI_get, Nat.add_one_le_iff, fillV, zeros1, zeros0, appendD, segV, lvO, goneOf, sliceD, bound, Nat.add_assoc, szL, ldL, setCs0, setCs1, setCs2, setCsA2, setCsA3, ldM, fM0, fM1, szM, zM, plM0, plM1, agM, paM, ldJ, fJ0, fJ1, fJ2, szJ, zJ, plJ0, plJ1, plJ2, agJ, paJ, g1, gi, gk, w, h5, h1] <;> (repeat refine ⟨by kernel_rfl, by kernel_rfl, ?_⟩) <;> simp [mvcgen_simp, -map_replicate, -map_set, -map_append, -map_reverse, -map_take, -map_drop, -map_tail, -any_map, -all_map, -mapM_map, -map_map, Try.f63, hps]

end Go.Proofs.Ytabnganndcmcnaa.Ev
