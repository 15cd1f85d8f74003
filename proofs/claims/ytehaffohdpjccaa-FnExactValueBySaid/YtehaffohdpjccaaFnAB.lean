/- PairLists: both texts and the law. Conditions: none. -/
import Derived.Test.YtehaffohdpjccaaFnO
set_option linter.unusedSimpArgs false
set_option linter.unusedVariables false
namespace Go.Proofs.Ytehaffohdpjccaa.Ev
open Go Go.Proofs
open List (map_replicate map_set map_append map_reverse map_take map_drop map_tail any_map all_map mapM_map map_map)
set_option maxRecDepth 4000
set_option maxHeartbeats 4000000

theorem run_l10List (p : Int) (a b cs : List Int) (more : Int) (ha : a.length ≤ 1048576) (hb : b.length ≤ 1048576) (hc : cs.length ≤ 1048576) (hm : 0 ≤ more ∧ more ≤ 1000) :
    runv E0 12 [(V.agg [V.int .i64 (p), (V.list (List.length (a)) (List.map (V.int .i64) (a))), (V.list (List.length (b)) (List.map (V.int .i64) (b)))]), (V.list (List.length (cs)) (List.map (V.int .i64) (cs))), .int .i64 more] = some ⟨true, .int .i64 (if jacB p a b then (if decide ((cs.length : Int) ≤ a.length + more) && cs.all (hasB p) then 0 else 2) else 1), [.agg [.undef, .undef, .undef], .undef, .undef]⟩ := by
  have cdk : codeOk Try.f12.ntmps (Try.f12.body.getD .skip) = true := by kernel_rfl
  refine run_of_WL (fn := Try.f12) rfl Try.func12 rfl ⟨by simp [Try.ntmps12], by simp [wideA, ints], cdk, by simp [Try.f12]⟩ ?_
  have h1 := run_l03Is p a b (by omega) (by omega)
  cases e : jacB p a b with
  | false =>
    rw [e] at h1
    simp [go_sem, -map_replicate, -map_set, -map_append, -map_reverse, -map_take, -map_drop, -map_tail, -any_map, -all_map, -mapM_map, -map_map, slL, szI, ldI, zI, undL, apL, setI, rdI_get, Nat.add_one_le_iff, fillV, zeros1, zeros0, appendD, segV, lvO, goneOf, sliceD, bound, Nat.add_assoc, szL, ldL, setCs0, setCs1, setCs2, setCsA2, setCsA3, ldJ, fJ0, fJ1, fJ2, szJ, zJ, plJ0, plJ1, plJ2, agJ, paJ, ldJl, fJl0, fJl1, fJl2, szJl, h1]
    simp [mvcgen_simp, -map_replicate, -map_set, -map_append, -map_reverse, -map_take, -map_drop, -map_tail, -any_map, -all_map, -mapM_map, -map_map, Try.f12]
  | true =>
    rw [e] at h1
    have h2 := run_l02Numbers p cs (jacB_prime e) (by omega)
    have w : IntKind.i64.wrap ((a.length : Int) + more) = (a.length : Int) + more := IntWalk.i64_in _ (by omega)
    by_cases c : (a.length : Int) + more < cs.length
    · have c' : ¬ (cs.length : Int) ≤ a.length + more := by omega
      simp [go_sem, -map_replicate, -map_set, -map_append, -map_reverse, -map_take, -map_drop, -map_tail, -any_map, -all_map, -mapM_map, -map_map, slL, szI, ldI, zI, undL, apL, setI, rdI_get, Nat.add_one_le_iff, fillV, zeros1, zeros0, appendD, segV, lvO, goneOf, sliceD, bound, Nat.add_assoc, szL, ldL, setCs0, setCs1, setCs2, setCsA2, setCsA3, ldJ, fJ0, fJ1, fJ2, szJ, zJ, plJ0, plJ1, plJ2, agJ, paJ, ldJl, fJl0, fJl1, fJl2, szJl, h1, w, c]
      simp [mvcgen_simp, -map_replicate, -map_set, -map_append, -map_reverse, -map_take, -map_drop, -map_tail, -any_map, -all_map, -mapM_map, -map_map, Try.f12, c']
    · have c' : (cs.length : Int) ≤ a.length + more := by omega
      cases e2 : cs.all (hasB p) <;> rw [e2] at h2 <;> simp [go_sem, -map_replicate, -map_set, -map_append, -map_reverse, -map_take, -map_drop, -map_tail, -any_map, -all_map, -mapM_map, -map_map, slL, szI, ldI, zI, undL, apL, setI, rdI_get, Nat.add_one_le_iff, fillV, zeros1, zeros0, appendD, segV, lvO, goneOf, sliceD, bound, Nat.add_assoc, szL, ldL, setCs0, setCs1, setCs2, setCsA2, setCsA3, ldJ, fJ0, fJ1, fJ2, szJ, zJ, plJ0, plJ1, plJ2, agJ, paJ, ldJl, fJl0, fJl1, fJl2, szJl, h1, w, c, h2] <;> simp [mvcgen_simp, -map_replicate, -map_set, -map_append, -map_reverse, -map_take, -map_drop, -map_tail, -any_map, -all_map, -mapM_map, -map_map, Try.f12, c', e2]
theorem run_areNumbers (p lo hi : Int) (cs : List Int) (hc : cs.length ≤ 1048576) :
    runv E0 29 [.int .i64 p, (V.list (List.length (cs)) (List.map (V.int .i64) (cs))), .int .i64 lo, .int .i64 hi] = some ⟨true, .bool (primeB p && (decide (lo ≤ cs.length) && decide ((cs.length : Int) ≤ hi)) && cs.all (hasB p)), [.undef, .undef, .undef, .undef]⟩ := by
  have cdk : codeOk Try.f29.ntmps (Try.f29.body.getD .skip) = true := by kernel_rfl
  refine run_of_WL (fn := Try.f29) rfl Try.func29 rfl ⟨by simp [Try.ntmps29], by simp [wideA, ints], cdk, by simp [Try.f29]⟩ ?_
  have h1 := run_IsPrime p
  have h2 := run_within cs.length lo hi
  have h3 := areAll_has p cs (by omega)
  have h4 := run_length cs
  cases e1 : primeB p <;> cases e2 : (decide (lo ≤ cs.length) && decide ((cs.length : Int) ≤ hi)) <;> rw [e1] at h1 <;> rw [e2] at h2 <;> simp [go_sem, -map_replicate, -map_set, -map_append, -map_reverse, -map_take, -map_drop, -map_tail, -any_map, -all_map, -mapM_map, -map_map, slL, szI, ldI, zI, undL, apL, setI, rdI_get, Nat.add_one_le_iff, fillV, zeros1, zeros0, appendD, segV, lvO, goneOf, sliceD, bound, Nat.add_assoc, szL, ldL, setCs0, setCs1, setCs2, setCsA2, setCsA3, ldJ, fJ0, fJ1, fJ2, szJ, zJ, plJ0, plJ1, plJ2, agJ, paJ, ldJl, fJl0, fJl1, fJl2, szJl, h1, h2, h3, h4] <;> (repeat refine ⟨by kernel_rfl, by kernel_rfl, ?_⟩) <;> simp [mvcgen_simp, -map_replicate, -map_set, -map_append, -map_reverse, -map_take, -map_drop, -map_tail, -any_map, -all_map, -mapM_map, -map_map, Try.f29]
theorem run_JisList (p m : Int) (a b cs : List Int) (hc : cs.length ≤ 1048576) :
    runv E0 17 [(V.agg [V.int .i64 (p), (V.list (List.length (a)) (List.map (V.int .i64) (a))), (V.list (List.length (b)) (List.map (V.int .i64) (b)))]), (V.list (List.length (cs)) (List.map (V.int .i64) (cs))), .int .i64 m] = some ⟨true, .bool (primeB p && (decide (0 ≤ (cs.length : Int)) && decide ((cs.length : Int) ≤ m)) && cs.all (hasB p)), [.agg [.undef, .undef, .undef], .undef, .undef]⟩ := by
  have cdk : codeOk Try.f17.ntmps (Try.f17.body.getD .skip) = true := by kernel_rfl
  refine run_of_WL (fn := Try.f17) rfl Try.func17 rfl ⟨by simp [Try.ntmps17], by simp [wideA, ints], cdk, by simp [Try.f17]⟩ ?_
  have h1 := run_areNumbers p 0 m cs hc
  simp [go_sem, -map_replicate, -map_set, -map_append, -map_reverse, -map_take, -map_drop, -map_tail, -any_map, -all_map, -mapM_map, -map_map, slL, szI, ldI, zI, undL, apL, setI, rdI_get, Nat.add_one_le_iff, fillV, zeros1, zeros0, appendD, segV, lvO, goneOf, sliceD, bound, Nat.add_assoc, szL, ldL, setCs0, setCs1, setCs2, setCsA2, setCsA3, ldJ, fJ0, fJ1, fJ2, szJ, zJ, plJ0, plJ1, plJ2, agJ, paJ, ldJl, fJl0, fJl1, fJl2, szJl, h1]
  simp [mvcgen_simp, -map_replicate, -map_set, -map_append, -map_reverse, -map_take, -map_drop, -map_tail, -any_map, -all_map, -mapM_map, -map_map, Try.f17]
def okL (p : Int) (a cs : List Int) : Bool := decide ((cs.length : Int) ≤ a.length) && cs.all (hasB p)
theorem okL_mem {p : Int} {a cs : List Int} (h : okL p a cs = true) {k : Nat} (hk : k < cs.length) : 0 ≤ rdI cs k ∧ rdI cs k < p := by
  simp only [okL, Bool.and_eq_true, List.all_eq_true] at h
  have := h.2 _ (List.getElem_mem hk)
  rw [rdI_get hk] at this
  exact hasB_range this

def pairTo (p : Int) (b cs ds : List Int) : Nat → Int
  | 0 => 0
  | k + 1 => (pairTo p b cs ds k + (rdI cs k * rdI ds k) % p * nrm p b k) % p
def pairR (p : Int) (a b cs ds : List Int) : Int × Int :=
  if jacB p a b then (if okL p a cs && okL p a ds then (pairTo p b cs ds (min cs.length ds.length), 0) else (0, 2)) else (0, 1)
theorem pairTo_range {p : Int} (hp : 2 ≤ p ∧ p ≤ 10007) (b cs ds : List Int) : ∀ k, 0 ≤ pairTo p b cs ds k ∧ pairTo p b cs ds k < p
  | 0 => by show 0 ≤ (0 : Int) ∧ (0 : Int) < p; omega
  | k + 1 => mod_small hp _
end Go.Proofs.Ytehaffohdpjccaa.Ev
