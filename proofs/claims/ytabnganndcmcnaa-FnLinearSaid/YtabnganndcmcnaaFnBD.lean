/- Polynomials of data, by both texts. Conditions: none. -/
import Derived.Test.YtabnganndcmcnaaFnBC
set_option linter.unusedSimpArgs false
set_option linter.unusedVariables false
namespace Go.Proofs.Ytabnganndcmcnaa.Ev
open Go Go.Proofs
open List (map_replicate map_set map_append map_reverse map_take map_drop map_tail any_map all_map mapM_map map_map)
set_option maxRecDepth 4000
set_option maxHeartbeats 4000000

/-! ### The recurrence -/
def nextP (p al be : Int) (own before : List Int) : List Int := addP p (mulP p [(-al) % p, 1] own) before ((-be) % p)
theorem nextP_fine {p : Int} (hp : 2 ≤ p ∧ p ≤ 10007) (al be : Int) (own before : List Int) : fine p (nextP p al be own before) := addP_fine hp (mulP_fine hp _ _) _
theorem nextP_le (p al be : Int) (own before : List Int) : (nextP p al be own before).length ≤ max (own.length + 1) before.length := by
  have h1 := addP_le p (mulP p [(-al) % p, 1] own) before ((-be) % p)
  have h2 := mulP_le p [(-al) % p, 1] own
  simp only [List.length_cons, List.length_nil] at h2
  unfold nextP; omega
def pl (p : Int) (a b : List Int) : Nat → List Int × List Int
  | 0 => ([1], [])
  | k + 1 => (nextP p (rdI a k) (rdI b k) (pl p a b k).1 (pl p a b k).2, (pl p a b k).1)
theorem pl_le (p : Int) (a b : List Int) : ∀ k, (pl p a b k).1.length ≤ k + 1 ∧ (pl p a b k).2.length ≤ k
  | 0 => ⟨by simp [pl], by simp [pl]⟩
  | k + 1 => by
    have ih := pl_le p a b k
    have := nextP_le p (rdI a k) (rdI b k) (pl p a b k).1 (pl p a b k).2
    refine ⟨?_, ih.1⟩
    simp only [pl]; omega
theorem pl_fine {p : Int} (hp : 2 ≤ p ∧ p ≤ 10007) (a b : List Int) : ∀ k, fine p (pl p a b k).1 ∧ fine p (pl p a b k).2
  | 0 => ⟨fine_one hp.1 ⟨by omega, by omega⟩, fine_nil hp.1⟩
  | k + 1 => ⟨nextP_fine hp _ _ _ _, (pl_fine hp a b k).1⟩

theorem run_next (p al be : Int) (own before : List Int) (hp : 2 ≤ p ∧ p ≤ 10007) (ha : 0 ≤ al ∧ al < p) (hb : 0 ≤ be ∧ be < p) (ho : fine p own) (hf : fine p before) (hlo : own.length ≤ 900) (hlb : before.length ≤ 900) :
    runv E1 237 [.int .i64 p, .int .i64 al, .int .i64 be, (V.list (List.length (own)) (List.map (V.int .i64) (own))), (V.list (List.length (before)) (List.map (V.int .i64) (before)))] = some ⟨true, (V.uniq 1 (List.length (nextP p al be own before)) (List.map (V.int .i64) (nextP p al be own before))), [.undef, .undef, .undef, .undef, .undef]⟩ := by
  have cdk : codeOk Try.f237.ntmps (Try.f237.body.getD .skip) = true := by kernel_rfl
  refine run_of_WLr (fn := Try.f237) rfl Try.func237 rfl ⟨by simp [Try.ntmps237], by simp [wideA, ints], cdk, by simp [Try.f237]⟩ rfl (by simp [rebOk, noId, adoptT, adoptA, adoptL, adoptC, depth]) ?_
  have w1 : IntKind.i64.wrap (-al) = -al := IntWalk.i64_in _ (by omega)
  have w2 : IntKind.i64.wrap (-be) = -be := IntWalk.i64_in _ (by omega)
  have d1 := up (run_mod p (-al) hp)
  have d2 := up (run_mod p (-be) hp)
  have r1 := mod_small hp (-al)
  have r2 := mod_small hp (-be)
  have h1 := run_product p [(-al) % p, 1] own hp (fine_two hp.1 r1 (by omega)) ho (by simp) (by omega)
  have lm := mulP_le p [(-al) % p, 1] own
  simp only [List.length_cons, List.length_nil] at lm
  have h2 := run_add p ((-be) % p) (mulP p [(-al) % p, 1] own) before hp (mulP_fine hp _ _) hf r2 (by omega) (by omega)
  simp only [List.length_cons, List.length_nil, List.map_cons, List.map_nil] at h1
  rw [show addP p (mulP p [(-al) % p, 1] own) before ((-be) % p) = nextP p al be own before from rfl] at h2
  generalize mulP p [(-al) % p, 1] own = M at *
  simp [go_sem, -map_replicate, -map_set, -map_append, -map_reverse, -map_take, -map_drop, -map_tail, -any_map, -all_map, -mapM_map, -map_map, slL, szI, ldI, zI, undL, apL, setI, rdI_get, Nat.add_one_le_iff, fillV, zeros1, zeros0, appendD, segV, lvO, goneOf, sliceD, bound, Nat.add_assoc, w1, w2, d1, d2, h1, h2, zerosV2]
  simp [mvcgen_simp, -map_replicate, -map_set, -map_append, -map_reverse, -map_take, -map_drop, -map_tail, -any_map, -all_map, -mapM_map, -map_map, Try.f237]
theorem run_l03Step (p al be : Int) (own before : List Int) (hp : 2 ≤ p ∧ p ≤ 10007) (ha : 0 ≤ al ∧ al < p) (hb : 0 ≤ be ∧ be < p) (ho : fine p own) (hf : fine p before) (hlo : own.length ≤ 900) (hlb : before.length ≤ 900) :
    runv E1 250 [.int .i64 p, (V.list (List.length (own)) (List.map (V.int .i64) (own))), (V.list (List.length (before)) (List.map (V.int .i64) (before))), .int .i64 al, .int .i64 be] = some ⟨true, (V.uniq 1 (List.length (nextP p al be own before)) (List.map (V.int .i64) (nextP p al be own before))), [.undef, .undef, .undef, .undef, .undef]⟩ := by
  have cdk : codeOk Try.f250.ntmps (Try.f250.body.getD .skip) = true := by kernel_rfl
  refine run_of_WLr (fn := Try.f250) rfl Try.func250 rfl ⟨by simp [Try.ntmps250], by simp [wideA, ints], cdk, by simp [Try.f250]⟩ rfl (by simp [rebOk, noId, adoptT, adoptA, adoptL, adoptC, depth]) ?_
  have w1 : IntKind.i64.wrap (-al) = -al := IntWalk.i64_in _ (by omega)
  have w2 : IntKind.i64.wrap (-be) = -be := IntWalk.i64_in _ (by omega)
  have d1 := up (run_l01Mod p (-al) hp)
  have d2 := up (run_l01Mod p (-be) hp)
  have r1 := mod_small hp (-al)
  have r2 := mod_small hp (-be)
  have h1 := run_l01Times p [(-al) % p, 1] own hp (fine_two hp.1 r1 (by omega)) ho (by simp) (by omega)
  have lm := mulP_le p [(-al) % p, 1] own
  simp only [List.length_cons, List.length_nil] at lm
  have h2 := run_l01Add p ((-be) % p) (mulP p [(-al) % p, 1] own) before hp (mulP_fine hp _ _) hf r2 (by omega) (by omega)
  simp only [List.length_cons, List.length_nil, List.map_cons, List.map_nil] at h1
  rw [show addP p (mulP p [(-al) % p, 1] own) before ((-be) % p) = nextP p al be own before from rfl] at h2
  generalize mulP p [(-al) % p, 1] own = M at *
  simp [go_sem, -map_replicate, -map_set, -map_append, -map_reverse, -map_take, -map_drop, -map_tail, -any_map, -all_map, -mapM_map, -map_map, slL, szI, ldI, zI, undL, apL, setI, rdI_get, Nat.add_one_le_iff, fillV, zeros1, zeros0, appendD, segV, lvO, goneOf, sliceD, bound, Nat.add_assoc, w1, w2, d1, d2, h1, h2, zerosV2]
  simp [mvcgen_simp, -map_replicate, -map_set, -map_append, -map_reverse, -map_take, -map_drop, -map_tail, -any_map, -all_map, -mapM_map, -map_map, Try.f250]

theorem run_l03Poly (p : Int) (a b : List Int) (n : Nat) (h : jacB p a b = true) (hn : n ≤ a.length) :
    runv E1 178 [(V.agg [V.int .i64 (p), (V.list (List.length (a)) (List.map (V.int .i64) (a))), (V.list (List.length (b)) (List.map (V.int .i64) (b)))]), .int .i64 (n : Int)] = some ⟨true, (V.uniq 1 (List.length ((pl p a b n).1)) (List.map (V.int .i64) ((pl p a b n).1))), [.agg [.undef, .undef, .undef], .undef]⟩ := by
  have cdk : codeOk Try.f178.ntmps (Try.f178.body.getD .skip) = true := by kernel_rfl
  refine run_of_WLr (fn := Try.f178) rfl Try.func178 rfl ⟨by simp [Try.ntmps178], by simp [wideA, ints], cdk, by simp [Try.f178]⟩ rfl (by simp [rebOk, noId, adoptT, adoptA, adoptL, adoptC, depth]) ?_
  have hp := jacB_prime h
  have hl := jacB_len h
  simp [go_sem, -map_replicate, -map_set, -map_append, -map_reverse, -map_take, -map_drop, -map_tail, -any_map, -all_map, -mapM_map, -map_map, slL, szI, ldI, zI, undL, apL, setI, rdI_get, Nat.add_one_le_iff, fillV, zeros1, zeros0, appendD, segV, lvO, goneOf, sliceD, bound, Nat.add_assoc, szL, ldL, setCs0, setCs1, setCs2, setCsA2, setCsA3, ldM, fM0, fM1, szM, zM, plM0, plM1, agM, paM, ldJ, fJ0, fJ1, fJ2, szJ, zJ, plJ0, plJ1, plJ2, agJ, paJ]
  rw [WL_loop]
  refine WL_for (keep := [1, 2, 5, 6, 7]) (rs := resM Try.f178) rfl (by kernel_rfl) (fun x => match x with | 0 => mkSt [(1, .int .i64 (n : Int)), (2, .ptr 0 0 0), (5, .nils), (6, .sl 1 0 0 1), (7, .int .i64 0)] [some (⟨0, 1, 1, [.int .i64 p, (V.list (List.length (a)) (List.map (V.int .i64) (a))), (V.list (List.length (b)) (List.map (V.int .i64) (b)))]⟩), some (⟨0, 2, 1, [.int .i64 1]⟩)] (resM Try.f178) | k + 1 => mkSt [(1, .int .i64 (n : Int)), (2, .ptr 0 0 0), (5, .sl 1 0 0 (pl p a b k).1.length), (6, .sl 2 0 0 (pl p a b (k + 1)).1.length), (7, .int .i64 ((k : Int) + 1))] [some (⟨0, 1, 1, [.int .i64 p, (V.list (List.length (a)) (List.map (V.int .i64) (a))), (V.list (List.length (b)) (List.map (V.int .i64) (b)))]⟩), some (row (pl p a b k).1), some (row (pl p a b (k + 1)).1)] (resM Try.f178)) n ?_ ?_ 0 _ (by omega) rfl ?_
  · intro k hk next
    have ra := jacB_a h (show k < a.length by omega)
    have rb := jacB_b h (show k < a.length by omega)
    have f1 := pl_fine hp a b k
    have l1 := pl_le p a b k
    have h1 := run_l03Step p (rdI a k) (rdI b k) (pl p a b k).1 (pl p a b k).2 hp ra (by omega) f1.1 f1.2 (by omega) (by omega)
    rw [show nextP p (rdI a k) (rdI b k) (pl p a b k).1 (pl p a b k).2 = (pl p a b (k + 1)).1 from rfl] at h1
    have w3 : IntKind.i64.wrap ((k : Int) + 1) = (k : Int) + 1 := IntWalk.i64_in _ (by omega)
    have ka : k < a.length := by omega
    have kb : k < b.length := by omega
    have kai : (k : Int) < a.length := by omega
    have kbi : (k : Int) < b.length := by omega
    have kn : (k : Int) < n := by omega
    have kp : (0 : Int) ≤ k := by omega
    rcases k with _ | k
    · dsimp only at next ⊢
      simp only [Nat.zero_add, Int.zero_add, Int.cast_ofNat_Int] at *
      simp only [show (pl p a b 0).1 = [1] from rfl, show (pl p a b 0).2 = [] from rfl, List.length_cons, List.length_nil, List.map_cons, List.map_nil] at h1
      simp [go_sem, -map_replicate, -map_set, -map_append, -map_reverse, -map_take, -map_drop, -map_tail, -any_map, -all_map, -mapM_map, -map_map, slL, szI, ldI, zI, undL, apL, setI, rdI_get, Nat.add_one_le_iff, fillV, zeros1, zeros0, appendD, segV, lvO, goneOf, sliceD, bound, Nat.add_assoc, szL, ldL, setCs0, setCs1, setCs2, setCsA2, setCsA3, ldM, fM0, fM1, szM, zM, plM0, plM1, agM, paM, ldJ, fJ0, fJ1, fJ2, szJ, zJ, plJ0, plJ1, plJ2, agJ, paJ, hk, ka, kb, kai, kbi, kn, kp, w3, h1]
      repeat refine ⟨by kernel_rfl, by kernel_rfl, ?_⟩
      refine next _ rfl ?_
      (refine canon_mk ?_; simp [method_specs_simp, ordIds_app, ordRen_app, ordIds_app2, ordRen_app2, -map_replicate, -map_set, -map_append, -map_reverse, -map_take, -map_drop, -map_tail, -map_map, row, pl])
    · dsimp only [row] at next ⊢
      simp only [Int.natCast_add, Int.cast_ofNat_Int, Nat.add_assoc, Nat.reduceAdd] at *
      rw [show (pl p a b (k + 1)).2 = (pl p a b k).1 from rfl] at h1
      simp [go_sem, -map_replicate, -map_set, -map_append, -map_reverse, -map_take, -map_drop, -map_tail, -any_map, -all_map, -mapM_map, -map_map, slL, szI, ldI, zI, undL, apL, setI, rdI_get, Nat.add_one_le_iff, fillV, zeros1, zeros0, appendD, segV, lvO, goneOf, sliceD, bound, Nat.add_assoc, szL, ldL, setCs0, setCs1, setCs2, setCsA2, setCsA3, ldM, fM0, fM1, szM, zM, plM0, plM1, agM, paM, ldJ, fJ0, fJ1, fJ2, szJ, zJ, plJ0, plJ1, plJ2, agJ, paJ, hk, ka, kb, kai, kbi, kn, kp, w3, h1]
      repeat refine ⟨by kernel_rfl, by kernel_rfl, ?_⟩
      refine next _ rfl ?_
      (refine canon_mk ?_; simp [method_specs_simp, ordIds_app, ordRen_app, ordIds_app2, ordRen_app2, -map_replicate, -map_set, -map_append, -map_reverse, -map_take, -map_drop, -map_tail, -map_map, row])
  · rcases n with _ | n
    · dsimp only
      simp [go_sem, -map_replicate, -map_set, -map_append, -map_reverse, -map_take, -map_drop, -map_tail, -any_map, -all_map, -mapM_map, -map_map, slL, szI, ldI, zI, undL, apL, setI, rdI_get, Nat.add_one_le_iff, fillV, zeros1, zeros0, appendD, segV, lvO, goneOf, sliceD, bound, Nat.add_assoc, szL, ldL, setCs0, setCs1, setCs2, setCsA2, setCsA3, ldM, fM0, fM1, szM, zM, plM0, plM1, agM, paM, ldJ, fJ0, fJ1, fJ2, szJ, zJ, plJ0, plJ1, plJ2, agJ, paJ]
      simp [mvcgen_simp, -map_replicate, -map_set, -map_append, -map_reverse, -map_take, -map_drop, -map_tail, -any_map, -all_map, -mapM_map, -map_map, Try.f178, pl]
    · dsimp only [row]
      simp [go_sem, -map_replicate, -map_set, -map_append, -map_reverse, -map_take, -map_drop, -map_tail, -any_map, -all_map, -mapM_map, -map_map, slL, szI, ldI, zI, undL, apL, setI, rdI_get, Nat.add_one_le_iff, fillV, zeros1, zeros0, appendD, segV, lvO, goneOf, sliceD, bound, Nat.add_assoc, szL, ldL, setCs0, setCs1, setCs2, setCsA2, setCsA3, ldM, fM0, fM1, szM, zM, plM0, plM1, agM, paM, ldJ, fJ0, fJ1, fJ2, szJ, zJ, plJ0, plJ1, plJ2, agJ, paJ]
      simp [mvcgen_simp, -map_replicate, -map_set, -map_append, -map_reverse, -map_take, -map_drop, -map_tail, -any_map, -all_map, -mapM_map, -map_map, Try.f178]
  · (refine canon_mk ?_; simp [method_specs_simp, ordIds_app, ordRen_app, ordIds_app2, ordRen_app2, -map_replicate, -map_set, -map_append, -map_reverse, -map_take, -map_drop, -map_tail, -map_map])
end Go.Proofs.Ytabnganndcmcnaa.Ev
