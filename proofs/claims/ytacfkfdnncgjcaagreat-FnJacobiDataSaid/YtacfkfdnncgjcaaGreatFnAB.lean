/- PairLists: both texts and the law. Conditions: none. -/
import Derived.Test.YtacfkfdnncgjcaaGreatFnO
set_option linter.unusedSimpArgs false
set_option linter.unusedVariables false
namespace Go.Proofs.YtacfkfdnncgjcaaGreat.Ev
open Go Go.Proofs
open List (map_replicate map_set map_append map_reverse map_take map_drop map_tail any_map all_map mapM_map map_map)
set_option maxRecDepth 4000
set_option maxHeartbeats 4000000

theorem run_areNumbers (p lo hi : Int) (cs : List Int) (hc : cs.length ≤ 1048576) :
    runv E0 195 [.int .i64 p, (V.list (List.length (cs)) (List.map (V.int .i64) (cs))), .int .i64 lo, .int .i64 hi] = some ⟨true, .bool (primeB p && (decide (lo ≤ cs.length) && decide ((cs.length : Int) ≤ hi)) && cs.all (hasB p)), [.undef, .undef, .undef, .undef]⟩ := by
  have cdk : codeOk Tryz.f195.ntmps (Tryz.f195.body.getD .skip) = true := by kernel_rfl
  refine run_of_WL (fn := Tryz.f195) rfl Tryz.func195 rfl ⟨by simp [Tryz.ntmps195], by simp [wideA, ints], cdk, by simp [Tryz.f195]⟩ ?_
  have h1 := run_IsPrime p
  have h2 := run_within cs.length lo hi
  have h3 := areAll_has p cs (by omega)
  have h4 := run_length cs
  cases e1 : primeB p <;> cases e2 : (decide (lo ≤ cs.length) && decide ((cs.length : Int) ≤ hi)) <;> rw [e1] at h1 <;> rw [e2] at h2 <;> simp [go_sem, -map_replicate, -map_set, -map_append, -map_reverse, -map_take, -map_drop, -map_tail, -any_map, -all_map, -mapM_map, -map_map, slL, szI, ldI, zI, undL, apL, setI, rdI_get, Nat.add_one_le_iff, fillV, zeros1, zeros0, appendD, segV, lvO, goneOf, sliceD, bound, Nat.add_assoc, szL, ldL, setCs0, setCs1, setCs2, setCsA2, setCsA3, ldM, fM0, fM1, szM, zM, plM0, plM1, agM, paM, ldJ, fJ0, fJ1, fJ2, szJ, zJ, plJ0, plJ1, plJ2, agJ, paJ, h1, h2, h3, h4] <;> (repeat refine ⟨by kernel_rfl, by kernel_rfl, ?_⟩) <;> simp [mvcgen_simp, -map_replicate, -map_set, -map_append, -map_reverse, -map_take, -map_drop, -map_tail, -any_map, -all_map, -mapM_map, -map_map, Tryz.f195]
def okL (p : Int) (a cs : List Int) : Bool := decide ((cs.length : Int) ≤ a.length) && cs.all (hasB p)
theorem okL_mem {p : Int} {a cs : List Int} (h : okL p a cs = true) {k : Nat} (hk : k < cs.length) : 0 ≤ rdI cs k ∧ rdI cs k < p := by
  simp only [okL, Bool.and_eq_true, List.all_eq_true] at h
  have := h.2 _ (List.getElem_mem hk)
  rw [rdI_get hk] at this
  exact hasB_range this

def pairTo (p : Int) (b cs ds : List Int) : Nat → Int
  | 0 => 0
  | k + 1 => (pairTo p b cs ds k + (rdI cs k * rdI ds k) % p * nrm p b k) % p
def pairR (p : Int) (a b cs ds : List Int) : Int × Int :=
  if jacB p a b then (if okL p a cs && okL p a ds then (pairTo p b cs ds (min cs.length ds.length), 0) else (0, 2)) else (0, 1)
theorem pairTo_range {p : Int} (hp : 2 ≤ p ∧ p ≤ 10007) (b cs ds : List Int) : ∀ k, 0 ≤ pairTo p b cs ds k ∧ pairTo p b cs ds k < p
  | 0 => by show 0 ≤ (0 : Int) ∧ (0 : Int) < p; omega
  | k + 1 => mod_small hp _
end Go.Proofs.YtacfkfdnncgjcaaGreat.Ev
