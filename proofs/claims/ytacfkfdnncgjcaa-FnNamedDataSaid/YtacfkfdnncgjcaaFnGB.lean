/- Draws of names, data and lists; the norms of all orthogonal polynomials: the program's run. Conditions: none. -/
import Derived.Test.YtacfkfdnncgjcaaFnGA
import Derived.Test.YtacfkfdnncgjcaaFnFP
import Derived.Test.YtacfkfdnncgjcaaFnEF
set_option linter.unusedSimpArgs false
set_option linter.unusedVariables false
namespace Go.Proofs.Ytacfkfdnncgjcaa.Ev
open Go Go.Proofs
open List (map_replicate map_set map_append map_reverse map_take map_drop map_tail any_map all_map mapM_map map_map)
set_option maxRecDepth 4000
set_option maxHeartbeats 4000000

theorem zerosV7 : zerosV 7 [V.int .i64 0] = List.replicate 7 (V.int .i64 0) := rfl
theorem zerosV2r : zerosV 2 [V.int .i64 0] = List.replicate 2 (V.int .i64 0) := rfl
theorem zerosS7 : zerosV 7 [V.str ⟨#[]⟩] = List.replicate 7 (V.str ⟨#[]⟩) := rfl
theorem run_l01Any (s : Src) : ∃ (s' : Src) (p : Int), (-3 ≤ p ∧ p ≤ 10009) ∧
    runv E1 78 [(V.uptr [V.list (s).code.length ((s).code.map (V.int .u8)), V.int .i64 (s).i, V.int .u64 (s).h])] = some ⟨true, (V.int .i64 (p)), [(V.uptr [V.list (s').code.length ((s').code.map (V.int .u8)), V.int .i64 (s').i, V.int .u64 (s').h])]⟩ := by
  obtain ⟨s1, x, _, hx, h1⟩ := run_l01Next s 24
  by_cases x0 : x = 0
  · subst x0
    obtain ⟨s2, p, hp, h2⟩ := run_l01Pick s1 [0, 1, 4, 9, 10006, 10009, -3] (by simp) (by simp)
    simp only [List.mem_cons, List.not_mem_nil, or_false] at hp
    simp only [List.map_cons, List.map_nil, List.length_cons, List.length_nil, Nat.reduceAdd] at h2
    refine ⟨s2, p, by omega, ?_⟩
    have cdk : codeOk Try.f78.ntmps (Try.f78.body.getD .skip) = true := by kernel_rfl
    refine run_of_WLp (fn := Try.f78) rfl Try.func78 rfl ⟨by simp [Try.ntmps78], by simp [wideA, ints], cdk, by simp [Try.f78]⟩ rfl (by simp [rebOk, noId, adoptT, adoptA, adoptL, adoptC, depth]) (by simp [pinned, adoptT, adoptA, adoptL, adoptC]) ?_
    simp [go_sem, -map_replicate, -map_set, -map_append, -map_reverse, -map_take, -map_drop, -map_tail, -any_map, -all_map, -mapM_map, -map_map, slL, szI, ldI, zI, undL, apL, setI, rdI_get, Nat.add_one_le_iff, fillV, zeros1, zeros0, appendD, segV, lvO, goneOf, sliceD, bound, Nat.add_assoc, h1, h2, zerosV7, fillV, List.replicate]
    repeat refine ⟨by kernel_rfl, by kernel_rfl, ?_⟩
    simp [mvcgen_simp, -map_replicate, -map_set, -map_append, -map_reverse, -map_take, -map_drop, -map_tail, -any_map, -all_map, -mapM_map, -map_map, Try.f78, isLR, hasU]
  · obtain ⟨s2, p, hp, h2⟩ := run_l01DrawPrime s1
    refine ⟨s2, p, by omega, ?_⟩
    have cdk : codeOk Try.f78.ntmps (Try.f78.body.getD .skip) = true := by kernel_rfl
    refine run_of_WLp (fn := Try.f78) rfl Try.func78 rfl ⟨by simp [Try.ntmps78], by simp [wideA, ints], cdk, by simp [Try.f78]⟩ rfl (by simp [rebOk, noId, adoptT, adoptA, adoptL, adoptC, depth]) (by simp [pinned, adoptT, adoptA, adoptL, adoptC]) ?_
    simp [go_sem, -map_replicate, -map_set, -map_append, -map_reverse, -map_take, -map_drop, -map_tail, -any_map, -all_map, -mapM_map, -map_map, slL, szI, ldI, zI, undL, apL, setI, rdI_get, Nat.add_one_le_iff, fillV, zeros1, zeros0, appendD, segV, lvO, goneOf, sliceD, bound, Nat.add_assoc, h1, h2, x0]
    repeat refine ⟨by kernel_rfl, by kernel_rfl, ?_⟩
    simp [mvcgen_simp, -map_replicate, -map_set, -map_append, -map_reverse, -map_take, -map_drop, -map_tail, -any_map, -all_map, -mapM_map, -map_map, Try.f78, isLR, hasU]
def nm7 : List V := [.str ⟨#[104, 101, 114, 109, 105, 116, 101]⟩, .str ⟨#[108, 97, 103, 117, 101, 114, 114, 101]⟩, .str ⟨#[112, 111, 105, 115, 115, 111, 110]⟩, .str ⟨#[99, 97, 116, 97, 108, 97, 110]⟩, .str ⟨#[115, 101, 99, 111, 110, 100]⟩, .str ⟨#[108, 101, 103, 101, 110, 100, 114, 101]⟩, .str ⟨#[106, 97, 99, 111, 98, 105]⟩]
theorem run_DrawNamedJacobi (code : List Int) (hb : ∀ z, z ∈ code → 0 ≤ z ∧ z ≤ 255) (hl : code.length ≤ 4096) : ∃ (nm : ByteArray) (p n : Int), nm.size ≤ 100 ∧
    runv E1 35 [.list code.length (code.map (V.int .u8))] = some ⟨true, .tup [.str nm, (V.int .i64 (p)), (V.int .i64 (n))], [.undef]⟩ := by
  obtain ⟨s, h0⟩ := run_l01From code hb hl
  obtain ⟨s1, x, _, hx, h1⟩ := run_l01Next s 7
  have hx := hx (by omega)
  obtain ⟨nm, hnm, hgx⟩ : ∃ nm : ByteArray, nm.size ≤ 100 ∧ nm7[x.toNat]? = some (V.str nm) := by
    have : x = 0 ∨ x = 1 ∨ x = 2 ∨ x = 3 ∨ x = 4 ∨ x = 5 ∨ x = 6 := by omega
    rcases this with rfl | rfl | rfl | rfl | rfl | rfl | rfl <;> exact ⟨_, by decide +kernel, rfl⟩
  unfold nm7 at hgx
  have hxt : x.toNat < 7 := by omega
  have hgx2 : ∀ h : x.toNat < 7, ([.str ⟨#[104, 101, 114, 109, 105, 116, 101]⟩, .str ⟨#[108, 97, 103, 117, 101, 114, 114, 101]⟩, .str ⟨#[112, 111, 105, 115, 115, 111, 110]⟩, .str ⟨#[99, 97, 116, 97, 108, 97, 110]⟩, .str ⟨#[115, 101, 99, 111, 110, 100]⟩, .str ⟨#[108, 101, 103, 101, 110, 100, 114, 101]⟩, .str ⟨#[106, 97, 99, 111, 98, 105]⟩] : List V)[x.toNat] = V.str nm := fun h => by
    have := hgx; rw [List.getElem?_eq_getElem (by simpa using h)] at this; exact Option.some.inj this
  obtain ⟨s2, p, hp, h2⟩ := run_l01Any s1
  obtain ⟨s3, y, _, hy, h3⟩ := run_l01Next s2 5
  have hy := hy (by omega)
  have w1 : IntKind.i64.wrap (1 + y) = 1 + y := IntWalk.i64_in _ (by omega)
  obtain ⟨s4, z, hz, h4⟩ := run_l01Near s3 12 (by omega)
  obtain ⟨s5, n, hn, h5⟩ := run_l01Pick s4 [1 + y, z] (by simp) (by simp)
  simp only [List.map_cons, List.map_nil, List.length_cons, List.length_nil, Nat.zero_add, Nat.reduceAdd] at h5
  refine ⟨nm, p, n, hnm, ?_⟩
  have cdk : codeOk Try.f35.ntmps (Try.f35.body.getD .skip) = true := by kernel_rfl
  refine run_of_WLr (fn := Try.f35) rfl Try.func35 rfl ⟨by simp [Try.ntmps35], by simp [wideA, ints], cdk, by simp [Try.f35]⟩ rfl (by simp [rebOk, noId, adoptT, adoptA, adoptL, adoptC, depth]) ?_
  simp [go_sem, -map_replicate, -map_set, -map_append, -map_reverse, -map_take, -map_drop, -map_tail, -any_map, -all_map, -mapM_map, -map_map, slL, szI, ldI, zI, undL, apL, setI, rdI_get, Nat.add_one_le_iff, fillV, zeros1, zeros0, appendD, segV, lvO, goneOf, sliceD, bound, Nat.add_assoc, szL, ldL, setCs0, setCs1, setCs2, setCsA2, setCsA3, ldM, fM0, fM1, szM, zM, plM0, plM1, agM, paM, ldJ, fJ0, fJ1, fJ2, szJ, zJ, plJ0, plJ1, plJ2, agJ, paJ, h0, h1, hx.1, hx.2, hxt, hgx, hgx2, h2, h3, w1, h4, h5, undS, slStr, ldStr, szStr, undStrS, zStr, zerosS7, zerosV2r, fillV, List.replicate]
  repeat refine ⟨by kernel_rfl, by kernel_rfl, ?_⟩
  simp [mvcgen_simp, -map_replicate, -map_set, -map_append, -map_reverse, -map_take, -map_drop, -map_tail, -any_map, -all_map, -mapM_map, -map_map, Try.f35, szL, ldL, setCs0, setCs1, setCs2, setCsA2, setCsA3, ldM, fM0, fM1, szM, zM, plM0, plM1, agM, paM, ldJ, fJ0, fJ1, fJ2, szJ, zJ, plJ0, plJ1, plJ2, agJ, paJ, isLR, hasU]
theorem run_DrawSquaredNorms (code : List Int) (hb : ∀ z, z ∈ code → 0 ≤ z ∧ z ≤ 255) (hl : code.length ≤ 4096) : ∃ (p : Int) (a b : List Int), (1 ≤ a.length ∧ a.length ≤ 13 ∧ b.length ≤ 13) ∧
    runv E1 38 [.list code.length (code.map (V.int .u8))] = some ⟨false, (V.agg [V.int .i64 (p), (V.list (List.length (a)) (List.map (V.int .i64) (a))), (V.list (List.length (b)) (List.map (V.int .i64) (b)))]), [.undef]⟩ := by
  obtain ⟨s, h0⟩ := run_l01From code hb hl
  obtain ⟨s1, p, a, b, hab, h1⟩ := run_l03Spoil s
  refine ⟨p, a, b, hab, ?_⟩
  have cdk : codeOk Try.f38.ntmps (Try.f38.body.getD .skip) = true := by kernel_rfl
  refine run_of_WLr (fn := Try.f38) rfl Try.func38 rfl ⟨by simp [Try.ntmps38], by simp [wideA, ints], cdk, by simp [Try.f38]⟩ rfl (by simp [rebOk, noId, adoptT, adoptA, adoptL, adoptC, depth]) ?_
  simp [go_sem, -map_replicate, -map_set, -map_append, -map_reverse, -map_take, -map_drop, -map_tail, -any_map, -all_map, -mapM_map, -map_map, slL, szI, ldI, zI, undL, apL, setI, rdI_get, Nat.add_one_le_iff, fillV, zeros1, zeros0, appendD, segV, lvO, goneOf, sliceD, bound, Nat.add_assoc, szL, ldL, setCs0, setCs1, setCs2, setCsA2, setCsA3, ldM, fM0, fM1, szM, zM, plM0, plM1, agM, paM, ldJ, fJ0, fJ1, fJ2, szJ, zJ, plJ0, plJ1, plJ2, agJ, paJ, h0, h1]
  repeat refine ⟨by kernel_rfl, by kernel_rfl, ?_⟩
  simp [mvcgen_simp, -map_replicate, -map_set, -map_append, -map_reverse, -map_take, -map_drop, -map_tail, -any_map, -all_map, -mapM_map, -map_map, Try.f38, szL, ldL, setCs0, setCs1, setCs2, setCsA2, setCsA3, ldM, fM0, fM1, szM, zM, plM0, plM1, agM, paM, ldJ, fJ0, fJ1, fJ2, szJ, zJ, plJ0, plJ1, plJ2, agJ, paJ, ctJ, loadD, viewN, isLR, hasU]
theorem run_DrawPairLists (code : List Int) (hb : ∀ z, z ∈ code → 0 ≤ z ∧ z ≤ 255) (hl : code.length ≤ 4096) : ∃ (p : Int) (a b cs ds : List Int), (1 ≤ a.length ∧ a.length ≤ 13 ∧ b.length ≤ 13) ∧ (cs.length ≤ 1000 ∧ ds.length ≤ 1000) ∧
    runv E1 40 [.list code.length (code.map (V.int .u8))] = some ⟨false, .tup [(V.agg [V.int .i64 (p), (V.list (List.length (a)) (List.map (V.int .i64) (a))), (V.list (List.length (b)) (List.map (V.int .i64) (b)))]), (V.list (List.length (cs)) (List.map (V.int .i64) (cs))), (V.list (List.length (ds)) (List.map (V.int .i64) (ds)))], [.undef]⟩ := by
  obtain ⟨s, h0⟩ := run_l01From code hb hl
  obtain ⟨s1, p, a, b, hab, h1⟩ := run_l03Spoil s
  obtain ⟨s2, cs, hcs, h2⟩ := run_l10Numbers s1 p a b 0 (by omega) (by omega)
  obtain ⟨s3, z, _, hz, h3⟩ := run_l01Next s2 16
  have hz := hz (by omega)
  have tz : z.tdiv 15 = z / 15 := Int.tdiv_eq_ediv_of_nonneg (by omega)
  have w3 : IntKind.i64.wrap (z.tdiv 15) = z.tdiv 15 := IntWalk.i64_in _ (by rw [tz]; omega)
  obtain ⟨s4, ds, hds, h4⟩ := run_l10Numbers s3 p a b (z.tdiv 15) (by omega) (by rw [tz]; omega)
  refine ⟨p, a, b, cs, ds, hab, ⟨hcs, hds⟩, ?_⟩
  have cdk : codeOk Try.f40.ntmps (Try.f40.body.getD .skip) = true := by kernel_rfl
  refine run_of_WLr (fn := Try.f40) rfl Try.func40 rfl ⟨by simp [Try.ntmps40], by simp [wideA, ints], cdk, by simp [Try.f40]⟩ rfl (by simp [rebOk, noId, adoptT, adoptA, adoptL, adoptC, depth]) ?_
  simp [go_sem, -map_replicate, -map_set, -map_append, -map_reverse, -map_take, -map_drop, -map_tail, -any_map, -all_map, -mapM_map, -map_map, slL, szI, ldI, zI, undL, apL, setI, rdI_get, Nat.add_one_le_iff, fillV, zeros1, zeros0, appendD, segV, lvO, goneOf, sliceD, bound, Nat.add_assoc, szL, ldL, setCs0, setCs1, setCs2, setCsA2, setCsA3, ldM, fM0, fM1, szM, zM, plM0, plM1, agM, paM, ldJ, fJ0, fJ1, fJ2, szJ, zJ, plJ0, plJ1, plJ2, agJ, paJ, h0, h1, h2, h3, w3, h4]
  repeat refine ⟨by kernel_rfl, by kernel_rfl, ?_⟩
  simp [mvcgen_simp, -map_replicate, -map_set, -map_append, -map_reverse, -map_take, -map_drop, -map_tail, -any_map, -all_map, -mapM_map, -map_map, Try.f40, szL, ldL, setCs0, setCs1, setCs2, setCsA2, setCsA3, ldM, fM0, fM1, szM, zM, plM0, plM1, agM, paM, ldJ, fJ0, fJ1, fJ2, szJ, zJ, plJ0, plJ1, plJ2, agJ, paJ, ctJ, loadD, viewN, isLR, hasU]
theorem ordN_data {p : Int} {a b l : List Int} (hj : jacB p a b = true) (hl : ∀ t, t < 2 * a.length → rdI l t = mo p a b t) (hll : l.length = 2 * a.length) : ordN p l = a.length := by
  have h1 := ord_ge hj hl (Nat.le_refl _) (by omega)
  have h2 := ordN_le p l
  omega
theorem run_implNormsOf (p : Int) (a b l : List Int) (hj : jacB p a b = true) (hm : momB p l = true) (hl : ∀ t, t < 2 * a.length → rdI l t = mo p a b t) (hll : l.length = 2 * a.length) :
    runv E1 43 [(V.agg [V.int .i64 (p), (V.list (List.length (l)) (List.map (V.int .i64) (l)))])] = some ⟨true, .tup [(V.uniq 1 (List.length (tab a.length (nrm p b))) (List.map (V.int .i64) (tab a.length (nrm p b)))), .int .i64 0], [.agg [.undef, .undef]]⟩ := by
  have hp := momB_prime hm
  have hml := momB_len hm
  have hj2 := jacB_len hj
  have h1 := up (run_mcode0 p l 82 [] [] true (by omega) fv_nil (fun H b => by
    simp [modesOf, callD, prepL, depth, run_always, nodupB, flatO, noTup, backW, widthOk, wideA, adopt, adoptA, adoptC, treeN]))
  rw [hm] at h1
  simp only [if_true] at h1
  have h2 := run_order p l hm
  rw [ordN_data hj hl hll] at h2
  have hmn : mmV mnI [V.int .i64 (a.length : Int), V.int .i64 12] = some (V.int .i64 (a.length : Int)) := by
    simp [mmV, mnI]; omega
  obtain ⟨n, hn⟩ : ∃ n, a.length = n := ⟨_, rfl⟩
  rw [hn] at h2 hmn
  rw [hn]
  have cdk : codeOk Try.f43.ntmps (Try.f43.body.getD .skip) = true := by kernel_rfl
  refine run_of_WLr (fn := Try.f43) rfl Try.func43 rfl ⟨by simp [Try.ntmps43], by simp [wideA, ints], cdk, by simp [Try.f43]⟩ rfl (by simp [rebOk, noId, adoptT, adoptA, adoptL, adoptC, depth]) ?_
  simp [go_sem, -map_replicate, -map_set, -map_append, -map_reverse, -map_take, -map_drop, -map_tail, -any_map, -all_map, -mapM_map, -map_map, slL, szI, ldI, zI, undL, apL, setI, rdI_get, Nat.add_one_le_iff, fillV, zeros1, zeros0, appendD, segV, lvO, goneOf, sliceD, bound, Nat.add_assoc, szL, ldL, setCs0, setCs1, setCs2, setCsA2, setCsA3, ldM, fM0, fM1, szM, zM, plM0, plM1, agM, paM, ldJ, fJ0, fJ1, fJ2, szJ, zJ, plJ0, plJ1, plJ2, agJ, paJ, h1, h2, hmn, fillV]
  repeat refine ⟨by kernel_rfl, by kernel_rfl, ?_⟩
  rw [WL_loop]
  refine WL_for (keep := [1, 5, 16, 17]) (rs := resM Try.f43) rfl (by kernel_rfl) (fun x => match x with | 0 => mkSt [(1, .ptr 0 0 0), (5, .nils), (16, .int .i64 (n : Int)), (17, .int .i64 0)] [some (⟨0, 1, 1, [.int .i64 p, (V.list (List.length (l)) (List.map (V.int .i64) (l)))]⟩)] (resM Try.f43) | k + 1 => mkSt [(1, .ptr 0 0 0), (5, .sl 1 0 0 (k + 1)), (16, .int .i64 (n : Int)), (17, .int .i64 ((k : Int) + 1))] [some (⟨0, 1, 1, [.int .i64 p, (V.list (List.length (l)) (List.map (V.int .i64) (l)))]⟩), some (⟨0, 2, 1, (tab (k + 1) (nrm p b)).map (V.int .i64)⟩)] (resM Try.f43)) n ?_ ?_ 0 _ (by omega) rfl ?_
  · intro k hk next
    have o3 := run_implNormOf p a b l k hm (by omega) (fun _ => ⟨hj, hl, by omega⟩) (ord_ge hj hl (by omega) (by omega)) (by omega)
    rw [dot_norm hj hl (by omega)] at o3
    have tN : tab (k + 1) (nrm p b) = tab k (nrm p b) ++ [nrm p b k] := tab_succ _ _
    have lN := tab_len k (nrm p b)
    have c4 : (k + 1) * 8 ≤ 140737488355328 := by omega
    rcases k with _ | k
    · have k0 : 0 < n := hk
      dsimp only at next ⊢
      rw [show tab 0 (nrm p b) = [] from rfl] at tN
      simp only [Nat.zero_add, Int.cast_ofNat_Int] at o3
      simp [go_sem, -map_replicate, -map_set, -map_append, -map_reverse, -map_take, -map_drop, -map_tail, -any_map, -all_map, -mapM_map, -map_map, slL, szI, ldI, zI, undL, apL, setI, rdI_get, Nat.add_one_le_iff, fillV, zeros1, zeros0, appendD, segV, lvO, goneOf, sliceD, bound, Nat.add_assoc, szL, ldL, setCs0, setCs1, setCs2, setCsA2, setCsA3, ldM, fM0, fM1, szM, zM, plM0, plM1, agM, paM, ldJ, fJ0, fJ1, fJ2, szJ, zJ, plJ0, plJ1, plJ2, agJ, paJ, k0, o3, wz1, fillV]
      repeat refine ⟨by kernel_rfl, by kernel_rfl, ?_⟩
      refine next _ rfl ?_
      (refine canon_mk ?_; simp [method_specs_simp, ordIds_app, ordRen_app, ordIds_app2, ordRen_app2, -map_replicate, -map_set, -map_append, -map_reverse, -map_take, -map_drop, -map_tail, -map_map, tN, wz1])
    · have kki : (k : Int) + 1 < (n : Int) := by omega
      have w9 : IntKind.i64.wrap ((k : Int) + 1 + 1) = (k : Int) + 1 + 1 := IntWalk.i64_in _ (by omega)
      dsimp only at next ⊢
      simp only [Int.natCast_add, Int.cast_ofNat_Int] at o3
      generalize hTN : tab (k + 1) (nrm p b) = TN at *
      simp [go_sem, -map_replicate, -map_set, -map_append, -map_reverse, -map_take, -map_drop, -map_tail, -any_map, -all_map, -mapM_map, -map_map, slL, szI, ldI, zI, undL, apL, setI, rdI_get, Nat.add_one_le_iff, fillV, zeros1, zeros0, appendD, segV, lvO, goneOf, sliceD, bound, Nat.add_assoc, szL, ldL, setCs0, setCs1, setCs2, setCsA2, setCsA3, ldM, fM0, fM1, szM, zM, plM0, plM1, agM, paM, ldJ, fJ0, fJ1, fJ2, szJ, zJ, plJ0, plJ1, plJ2, agJ, paJ, kki, o3, w9, lN, c4, fillV]
      repeat refine ⟨by kernel_rfl, by kernel_rfl, ?_⟩
      refine next _ rfl ?_
      (refine canon_mk ?_; simp [method_specs_simp, ordIds_app, ordRen_app, ordIds_app2, ordRen_app2, -map_replicate, -map_set, -map_append, -map_reverse, -map_take, -map_drop, -map_tail, -map_map, tN, w9])
  · rcases n with _ | k
    · omega
    · have lN := tab_len (k + 1) (nrm p b)
      dsimp only
      simp [go_sem, -map_replicate, -map_set, -map_append, -map_reverse, -map_take, -map_drop, -map_tail, -any_map, -all_map, -mapM_map, -map_map, slL, szI, ldI, zI, undL, apL, setI, rdI_get, Nat.add_one_le_iff, fillV, zeros1, zeros0, appendD, segV, lvO, goneOf, sliceD, bound, Nat.add_assoc, szL, ldL, setCs0, setCs1, setCs2, setCsA2, setCsA3, ldM, fM0, fM1, szM, zM, plM0, plM1, agM, paM, ldJ, fJ0, fJ1, fJ2, szJ, zJ, plJ0, plJ1, plJ2, agJ, paJ]
      repeat refine ⟨by kernel_rfl, by kernel_rfl, ?_⟩
      simp [mvcgen_simp, -map_replicate, -map_set, -map_append, -map_reverse, -map_take, -map_drop, -map_tail, -any_map, -all_map, -mapM_map, -map_map, Try.f43, szL, ldL, setCs0, setCs1, setCs2, setCsA2, setCsA3, ldM, fM0, fM1, szM, zM, plM0, plM1, agM, paM, ldJ, fJ0, fJ1, fJ2, szJ, zJ, plJ0, plJ1, plJ2, agJ, paJ, ctL, lN]
  · (refine canon_mk ?_; simp [method_specs_simp, ordIds_app, ordRen_app, ordIds_app2, ordRen_app2, -map_replicate, -map_set, -map_append, -map_reverse, -map_take, -map_drop, -map_tail, -map_map])
theorem pairTo_sym (p : Int) (b cs ds : List Int) : ∀ k, pairTo p b cs ds k = pairTo p b ds cs k
  | 0 => rfl
  | k + 1 => by rw [pairTo, pairTo, pairTo_sym p b cs ds k, Int.mul_comm (rdI cs k)]
theorem pairR_sym (p : Int) (a b cs ds : List Int) : pairR p a b ds cs = pairR p a b cs ds := by
  unfold pairR
  rw [Bool.and_comm, pairTo_sym, Nat.min_comm]
end Go.Proofs.Ytacfkfdnncgjcaa.Ev
