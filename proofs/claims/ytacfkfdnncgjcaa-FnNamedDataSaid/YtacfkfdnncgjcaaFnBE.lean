/- Rows of lists of their own; all polynomials of data. Conditions: none. -/
import Derived.Test.YtacfkfdnncgjcaaFnBC
set_option linter.unusedSimpArgs false
set_option linter.unusedVariables false
namespace Go.Proofs.Ytacfkfdnncgjcaa.Ev
open Go Go.Proofs
open List (map_replicate map_set map_append map_reverse map_take map_drop map_tail any_map all_map mapM_map map_map)
set_option maxRecDepth 4000
set_option maxHeartbeats 4000000

/-! ### Rows of lists -/
def UV (f : List Int) : V := (V.uniq 1 (List.length (f)) (List.map (V.int .i64) (f)))
section
variable {ord : List Nat} {H : Nat → Option Ob} {d sz n : Nat} {cs : List V} (r : List (List Int))
theorem ordIds_UV : (r.map UV).flatMap (idsF d) = [] := flatMap_leaf (fun _ => by cases d <;> rfl) r
theorem ordRen_UV : (r.map UV).map (renC ord H) = r.map UV := by
  rw [List.map_map]; exact List.map_congr_left fun a _ => rfl
theorem ordIds_UVapp : (r.map UV ++ [V.uniq sz n cs]).flatMap (idsF d) = [] := by
  rw [List.flatMap_append, ordIds_UV]; cases d <;> rfl
theorem ordRen_UVapp : (r.map UV ++ [V.uniq sz n cs]).map (renC ord H) = r.map UV ++ [V.uniq sz n cs] := by
  rw [List.map_append, ordRen_UV]; rfl
theorem mapM_to {α : Type} {g h : α → V} {f : V → Option V} (hf : ∀ a, f (g a) = some (h a)) : ∀ l : List α, (l.map g).mapM f = some (l.map h)
  | [] => rfl
  | a :: l => by rw [List.map_cons, List.mapM_cons, hf, mapM_to hf l]; rfl
theorem purN_UV (f : List Int) : purN H (d + 1) (UV f) = some (LV f) := by
  simp only [UV, purN, mapM_purN_int, Option.map_some, LV]
theorem viewN_UV (f : List Int) : viewN (d + 1) (UV f) = some (LV f) := by
  simp only [UV, viewN, mapM_viewN_int, Option.map_some, LV]
theorem treeN_UV (f : List Int) : treeN (d + 1) (UV f) = true := by
  simp only [UV, treeN, all_treeN_int]
theorem mapM_purN_UV : (r.map UV).mapM (purN H (d + 1)) = some (r.map LV) := mapM_to (fun f => purN_UV f) r
theorem mapM_viewN_UV : (r.map UV).mapM (viewN (d + 1)) = some (r.map LV) := mapM_to (fun f => viewN_UV f) r
theorem mapM_expN_UV : (r.map UV).mapM (expN H (d + 1)) = some (r.map UV) := mapM_leaf (fun f => by
  have := treeN_UV (d := d) f
  unfold UV at this ⊢
  simp only [expN, this, Bool.true_or, if_true]) r
theorem flatMap_idsN_UV : (r.map UV).flatMap (idsN H (d + 1)) = [] := flatMap_leaf (fun f => by
  simp only [UV, idsN, flatMap_idsN_int]) r
theorem flatMap_eidN_UV : (r.map UV).flatMap (eidN H (d + 1)) = [] := flatMap_leaf (fun f => rfl) r
theorem all_treeN_UV : (r.map UV).all (treeN (d + 1)) = true := all_leaf (fun f => treeN_UV f) r
theorem any_hasU_UV : (r.map UV).any hasU = !r.isEmpty := by cases r <;> simp [UV, hasU]
end

def prow (p : Int) (a b : List Int) (n : Nat) : List (List Int) := (List.range n).map fun i => (pl p a b i).1
theorem prow_len (p : Int) (a b : List Int) (n : Nat) : (prow p a b n).length = n := by simp [prow]
theorem prow_get (p : Int) (a b : List Int) {n k : Nat} (h : k < (prow p a b n).length) : (prow p a b n)[k] = (pl p a b k).1 := by simp [prow]
theorem prow_succ (p : Int) (a b : List Int) (n : Nat) : (prow p a b (n + 1)).map UV = (prow p a b n).map UV ++ [V.uniq 1 (pl p a b n).1.length ((pl p a b n).1.map (V.int .i64))] := by
  unfold prow; rw [List.range_succ, List.map_append, List.map_append]; rfl
theorem prow_at (p : Int) (a b : List Int) {n k : Nat} (h : k < n) (g : List Int → V) : ((prow p a b n).map g)[k]? = some (g (pl p a b k).1) := by
  simp [prow, h]
theorem prow_take (p : Int) (a b : List Int) (n : Nat) (g : List Int → V) : ((prow p a b (n + 1)).map g).take n = (prow p a b n).map g := by
  unfold prow
  rw [List.range_succ, List.map_append, List.map_append, List.take_append_of_le_length (by simp), List.take_of_length_le (by simp)]

theorem slR : slT Try.prog 77 = some (27, 1, 24) := by kernel_rfl
theorem apR : apT Try.prog 77 = some (27, 1, 24) := by kernel_rfl
theorem undR : Try.prog.underlying 77 = some (.slice 27) := by kernel_rfl
theorem zR : zeroT Try.prog 27 = some [.nils] := by kernel_rfl
theorem ctR : cellTys Try.prog 77 = [some 1] := by kernel_rfl
theorem zerosR : zerosV 1 [V.nils] = [.nils] := rfl
theorem run_polys (p : Int) (a b : List Int) (h : jacB p a b = true) :
    runv E1 62 [(V.agg [V.int .i64 (p), (V.list (List.length (a)) (List.map (V.int .i64) (a))), (V.list (List.length (b)) (List.map (V.int .i64) (b)))])] = some ⟨true, .uniq 1 (a.length + 1) ((prow p a b (a.length + 1)).map UV), [.agg [.undef, .undef, .undef]]⟩ := by
  have cdk : codeOk Try.f62.ntmps (Try.f62.body.getD .skip) = true := by kernel_rfl
  refine run_of_WLr (fn := Try.f62) rfl Try.func62 rfl ⟨by simp [Try.ntmps62], by simp [wideA, ints], cdk, by simp [Try.f62]⟩ rfl (by simp [rebOk, noId, adoptT, adoptA, adoptL, adoptC, depth]) ?_
  have hp := jacB_prime h
  have hl := jacB_len h
  simp [go_sem, -map_replicate, -map_set, -map_append, -map_reverse, -map_take, -map_drop, -map_tail, -any_map, -all_map, -mapM_map, -map_map, slL, szI, ldI, zI, undL, apL, setI, rdI_get, Nat.add_one_le_iff, fillV, zeros1, zeros0, appendD, segV, lvO, goneOf, sliceD, bound, Nat.add_assoc, szL, ldL, setCs0, setCs1, setCs2, setCsA2, setCsA3, ldM, fM0, fM1, szM, zM, plM0, plM1, agM, paM, ldJ, fJ0, fJ1, fJ2, szJ, zJ, plJ0, plJ1, plJ2, agJ, paJ, slR, undR, zR, zerosR]
  repeat refine ⟨by kernel_rfl, by kernel_rfl, ?_⟩
  rw [WL_loop]
  refine WL_for (keep := [1, 3, 4, 11, 12, 13]) (rs := resM Try.f62) rfl (by kernel_rfl) (fun x => match x with | 0 => mkSt [(1, .ptr 0 0 0), (3, .sl 1 0 0 1), (4, .nils), (11, (V.list (List.length (a)) (List.map (V.int .i64) (a)))), (12, .int .i64 (a.length : Int)), (13, .int .i64 0)] [some (⟨0, 1, 1, [.int .i64 p, (V.list (List.length (a)) (List.map (V.int .i64) (a))), (V.list (List.length (b)) (List.map (V.int .i64) (b)))]⟩), some (⟨0, 2, 1, (prow p a b 1).map UV⟩)] (resM Try.f62) | k + 1 => mkSt [(1, .ptr 0 0 0), (3, .sl 1 0 0 (k + 2)), (4, (V.list (List.length ((pl p a b k).1)) (List.map (V.int .i64) ((pl p a b k).1)))), (11, (V.list (List.length (a)) (List.map (V.int .i64) (a)))), (12, .int .i64 (a.length : Int)), (13, .int .i64 ((k : Int) + 1))] [some (⟨0, 1, 1, [.int .i64 p, (V.list (List.length (a)) (List.map (V.int .i64) (a))), (V.list (List.length (b)) (List.map (V.int .i64) (b)))]⟩), some (⟨0, 2, 1, (prow p a b (k + 2)).map UV⟩)] (resM Try.f62)) a.length ?_ ?_ 0 _ (by omega) rfl ?_
  · intro k hk next
    have ra := jacB_a h hk
    have rb := jacB_b h hk
    have f1 := pl_fine hp a b k
    have l1 := pl_le p a b k
    have h1 := run_next p (rdI a k) (rdI b k) (pl p a b k).1 (pl p a b k).2 hp ra (by omega) f1.1 f1.2 (by omega) (by omega)
    rw [show nextP p (rdI a k) (rdI b k) (pl p a b k).1 (pl p a b k).2 = (pl p a b (k + 1)).1 from rfl] at h1
    have w3 : IntKind.i64.wrap ((k : Int) + 1) = (k : Int) + 1 := IntWalk.i64_in _ (by omega)
    have kb : k < b.length := by omega
    have kai : (k : Int) < a.length := by omega
    have kbi : (k : Int) < b.length := by omega
    have kp : (0 : Int) ≤ k := by omega
    have g3 := up (run_Jfield p a b)
    have c3 : (k + 2) * 24 ≤ 140737488355328 := by omega
    have rk := prow_at p a b (Nat.lt_succ_self k) UV
    have lR := prow_len p a b (k + 1)
    have sR := prow_succ p a b (k + 1)
    rcases k with _ | k
    · dsimp only at next ⊢
      simp only [Nat.zero_add, Int.zero_add, Int.cast_ofNat_Int, Int.natCast_add, Nat.add_assoc, Nat.reduceAdd, Nat.succ_eq_add_one] at *
      try simp only [show (pl p a b 0).2 = [] from rfl, List.length_nil, List.map_nil] at h1
      try rw [show (pl p a b (k + 1)).2 = (pl p a b k).1 from rfl] at h1
      simp [go_sem, -map_replicate, -map_set, -map_append, -map_reverse, -map_take, -map_drop, -map_tail, -any_map, -all_map, -mapM_map, -map_map, slL, szI, ldI, zI, undL, apL, setI, rdI_get, Nat.add_one_le_iff, fillV, zeros1, zeros0, appendD, segV, lvO, goneOf, sliceD, bound, Nat.add_assoc, szL, ldL, setCs0, setCs1, setCs2, setCsA2, setCsA3, ldM, fM0, fM1, szM, zM, plM0, plM1, agM, paM, ldJ, fJ0, fJ1, fJ2, szJ, zJ, plJ0, plJ1, plJ2, agJ, paJ, hk, kb, kai, kbi, kp, w3, g3, h1, c3, rk, prow_get, prow_len, viewN_UV, LV, slR, apR, undR, zR, zerosR, lR]
      repeat refine ⟨by kernel_rfl, by kernel_rfl, ?_⟩
      refine next _ rfl ?_
      (refine canon_mk ?_; simp [method_specs_simp, ordIds_app, ordRen_app, ordIds_app2, ordRen_app2, -map_replicate, -map_set, -map_append, -map_reverse, -map_take, -map_drop, -map_tail, -map_map, sR, ordIds_UV, ordRen_UV, ordIds_UVapp, ordRen_UVapp])
    · dsimp only at next ⊢
      simp only [Nat.zero_add, Int.zero_add, Int.cast_ofNat_Int, Int.natCast_add, Nat.add_assoc, Nat.reduceAdd, Nat.succ_eq_add_one] at *
      try simp only [show (pl p a b 0).2 = [] from rfl, List.length_nil, List.map_nil] at h1
      try rw [show (pl p a b (k + 1)).2 = (pl p a b k).1 from rfl] at h1
      simp [go_sem, -map_replicate, -map_set, -map_append, -map_reverse, -map_take, -map_drop, -map_tail, -any_map, -all_map, -mapM_map, -map_map, slL, szI, ldI, zI, undL, apL, setI, rdI_get, Nat.add_one_le_iff, fillV, zeros1, zeros0, appendD, segV, lvO, goneOf, sliceD, bound, Nat.add_assoc, szL, ldL, setCs0, setCs1, setCs2, setCsA2, setCsA3, ldM, fM0, fM1, szM, zM, plM0, plM1, agM, paM, ldJ, fJ0, fJ1, fJ2, szJ, zJ, plJ0, plJ1, plJ2, agJ, paJ, hk, kb, kai, kbi, kp, w3, g3, h1, c3, rk, prow_get, prow_len, viewN_UV, LV, slR, apR, undR, zR, zerosR, lR]
      repeat refine ⟨by kernel_rfl, by kernel_rfl, ?_⟩
      refine next _ rfl ?_
      (refine canon_mk ?_; simp [method_specs_simp, ordIds_app, ordRen_app, ordIds_app2, ordRen_app2, -map_replicate, -map_set, -map_append, -map_reverse, -map_take, -map_drop, -map_tail, -map_map, sR, ordIds_UV, ordRen_UV, ordIds_UVapp, ordRen_UVapp])
  · have lR := prow_len p a b (a.length + 1)
    rcases hn : a.length with _ | n
    · omega
    · dsimp only
      rw [← hn]
      rw [hn] at lR
      have c9 : ¬ (n : Int) + 1 < a.length := by omega
      simp [go_sem, -map_replicate, -map_set, -map_append, -map_reverse, -map_take, -map_drop, -map_tail, -any_map, -all_map, -mapM_map, -map_map, slL, szI, ldI, zI, undL, apL, setI, rdI_get, Nat.add_one_le_iff, fillV, zeros1, zeros0, appendD, segV, lvO, goneOf, sliceD, bound, Nat.add_assoc, szL, ldL, setCs0, setCs1, setCs2, setCsA2, setCsA3, ldM, fM0, fM1, szM, zM, plM0, plM1, agM, paM, ldJ, fJ0, fJ1, fJ2, szJ, zJ, plJ0, plJ1, plJ2, agJ, paJ, c9]
      simp [mvcgen_simp, -map_replicate, -map_set, -map_append, -map_reverse, -map_take, -map_drop, -map_tail, -any_map, -all_map, -mapM_map, -map_map, Try.f62, ctR, hn, lR, mapM_expN_UV, flatMap_eidN_UV, all_treeN_UV]
  · (refine canon_mk ?_; simp [method_specs_simp, ordIds_app, ordRen_app, ordIds_app2, ordRen_app2, -map_replicate, -map_set, -map_append, -map_reverse, -map_take, -map_drop, -map_tail, -map_map, prow, UV, pl])

/-! ### Sums of numbers times polynomials -/
def sumP (p : Int) (a b cs : List Int) : Nat → List Int
  | 0 => []
  | k + 1 => addP p (sumP p a b cs k) (pl p a b k).1 (rdI cs k)
theorem sumP_le (p : Int) (a b cs : List Int) : ∀ k, (sumP p a b cs k).length ≤ k
  | 0 => by simp [sumP]
  | k + 1 => by
    have ih := sumP_le p a b cs k
    have h1 := addP_le p (sumP p a b cs k) (pl p a b k).1 (rdI cs k)
    have h2 := (pl_le p a b k).1
    rw [sumP]; omega
theorem sumP_fine {p : Int} (hp : 2 ≤ p ∧ p ≤ 10007) (a b cs : List Int) : ∀ k, fine p (sumP p a b cs k)
  | 0 => fine_nil hp.1
  | k + 1 => addP_fine hp (sumP_fine hp a b cs k) _
end Go.Proofs.Ytacfkfdnncgjcaa.Ev
