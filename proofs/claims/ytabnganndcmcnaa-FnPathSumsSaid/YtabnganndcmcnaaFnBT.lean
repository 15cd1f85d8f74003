/- WeightOfPath: both texts and the law. Conditions: none. -/
import Derived.Test.YtabnganndcmcnaaFnBA
import Derived.Test.YtabnganndcmcnaaFnJ
set_option linter.unusedSimpArgs false
set_option linter.unusedVariables false
namespace Go.Proofs.Ytabnganndcmcnaa.Ev
open Go Go.Proofs
open List (map_replicate map_set map_append map_reverse map_take map_drop map_tail any_map all_map mapM_map map_map)
set_option maxRecDepth 4000
set_option maxHeartbeats 4000000

theorem hts_pos : ∀ (l : List Int) (i : Int) (q : List Int), hts l i = some q → ∀ x, x ∈ q → 0 ≤ x
  | [], i, q, h, x, hx => by simp [hts] at h; subst h; cases hx
  | c :: cs, i, q, h, x, hx => by
    simp only [hts] at h
    split at h
    · cases h
    · split at h
      · cases h
      · rename_i hj
        obtain ⟨q', h1, rfl⟩ := Option.map_eq_some_iff.1 h
        rcases List.mem_cons.1 hx with rfl | hx
        · omega
        · exact hts_pos cs _ q' h1 x hx
theorem heightsR_pos {s : ByteArray} {i : Int} {q : List Int} (h : heightsR s i = some q) (hi : 0 ≤ i) : q.length = s.size + 1 ∧ ∀ k, 0 ≤ rdI q k := by
  unfold heightsR at h
  obtain ⟨q', h1, rfl⟩ := Option.map_eq_some_iff.1 h
  have l := hts_len _ _ _ h1
  refine ⟨by simp [l, bl_len], fun k => ?_⟩
  by_cases hk : k < (i :: q').length
  · rw [← rdI_get hk]
    rcases List.mem_cons.1 (List.getElem_mem hk) with e | e
    · rw [e]; exact hi
    · exact hts_pos _ _ _ h1 _ e
  · simp [rdI, List.getElem?_eq_none (by omega : (i :: q').length ≤ k)]
/-- The greatest of the first k + 1 numbers. -/
def mxK (l : List Int) : Nat → Int
  | 0 => rdI l 0
  | k + 1 => mxI (mxK l k) (rdI l (k + 1))
theorem mxK_lt (l : List Int) (n : Int) : ∀ k, (mxK l k < n) ↔ ∀ j, j ≤ k → rdI l j < n
  | 0 => ⟨fun h j hj => by rw [show j = 0 by omega]; exact h, fun h => h 0 (Nat.le_refl _)⟩
  | k + 1 => by
    have ih := mxK_lt l n k
    rw [mxK]
    unfold mxI
    constructor
    · intro h j hj
      by_cases e : j = k + 1
      · subst e; split at h <;> omega
      · exact ih.1 (by split at h <;> omega) j (by omega)
    · intro h
      have h1 := ih.2 fun j hj => h j (by omega)
      have h2 := h (k + 1) (Nat.le_refl _)
      split <;> omega
theorem run_Max (l : List Int) (h0 : 0 < l.length) (hl : l.length ≤ 1048576) :
    runv E1 172 [(V.list (List.length (l)) (List.map (V.int .i64) (l)))] = some ⟨true, .int .i64 (mxK l (l.length - 1)), [.undef]⟩ := by
  have cdk : codeOk Try.f172.ntmps (Try.f172.body.getD .skip) = true := by kernel_rfl
  refine run_of_WLr (fn := Try.f172) rfl Try.func172 rfl ⟨by simp [Try.ntmps172], by simp [wideA, ints], cdk, by simp [Try.f172]⟩ rfl (by simp [rebOk, noId, adoptT, adoptA, adoptL, adoptC, depth]) ?_
  have c1 : ¬ (l.length : Int) < 1 := by omega
  have c1' : ¬ l = [] := fun h => by rw [h] at h0; simp at h0
  simp [go_sem, -map_replicate, -map_set, -map_append, -map_reverse, -map_take, -map_drop, -map_tail, -any_map, -all_map, -mapM_map, -map_map, slL, szI, ldI, zI, undL, apL, setI, rdI_get, Nat.add_one_le_iff, fillV, zeros1, zeros0, appendD, segV, lvO, goneOf, sliceD, bound, Nat.add_assoc, szL, ldL, setCs0, setCs1, setCs2, setCsA2, setCsA3, ldM, fM0, fM1, szM, zM, plM0, plM1, agM, paM, ldJ, fJ0, fJ1, fJ2, szJ, zJ, plJ0, plJ1, plJ2, agJ, paJ, c1, c1', h0]
  rw [WL_loop]
  refine WL_for (keep := [0, 3, 4]) (rs := resM Try.f172) rfl (by kernel_rfl) (fun k => mkSt [(0, (V.list (List.length (l)) (List.map (V.int .i64) (l)))), (3, .int .i64 (mxK l k)), (4, .int .i64 ((k : Int) + 1))] [] (resM Try.f172)) (l.length - 1) ?_ ?_ 0 _ (by omega) rfl ?_
  · intro k hk next
    have w3 : IntKind.i64.wrap ((k : Int) + 1 + 1) = (k : Int) + 1 + 1 := IntWalk.i64_in _ (by omega)
    have k1 : k + 1 < l.length := by omega
    have k1i : (k : Int) + 1 < l.length := by omega
    have kq : (0 : Int) ≤ (k : Int) + 1 := by omega
    have mm : mmV mxI [V.int .i64 (mxK l k), V.int .i64 (rdI l (k + 1))] = some (V.int .i64 (mxK l (k + 1))) := by simp [mmV, mxK]
    simp [go_sem, -map_replicate, -map_set, -map_append, -map_reverse, -map_take, -map_drop, -map_tail, -any_map, -all_map, -mapM_map, -map_map, slL, szI, ldI, zI, undL, apL, setI, rdI_get, Nat.add_one_le_iff, fillV, zeros1, zeros0, appendD, segV, lvO, goneOf, sliceD, bound, Nat.add_assoc, szL, ldL, setCs0, setCs1, setCs2, setCsA2, setCsA3, ldM, fM0, fM1, szM, zM, plM0, plM1, agM, paM, ldJ, fJ0, fJ1, fJ2, szJ, zJ, plJ0, plJ1, plJ2, agJ, paJ, k1, k1i, kq, w3, mm]
    repeat refine ⟨by kernel_rfl, by kernel_rfl, ?_⟩
    refine next _ rfl ?_
    (refine canon_mk ?_; simp [method_specs_simp, ordIds_app, ordRen_app, ordIds_app2, ordRen_app2, -map_replicate, -map_set, -map_append, -map_reverse, -map_take, -map_drop, -map_tail, -map_map])
  · have e : ((l.length - 1 : Nat) : Int) + 1 = l.length := by omega
    simp only [e]
    simp [go_sem, -map_replicate, -map_set, -map_append, -map_reverse, -map_take, -map_drop, -map_tail, -any_map, -all_map, -mapM_map, -map_map, slL, szI, ldI, zI, undL, apL, setI, rdI_get, Nat.add_one_le_iff, fillV, zeros1, zeros0, appendD, segV, lvO, goneOf, sliceD, bound, Nat.add_assoc, szL, ldL, setCs0, setCs1, setCs2, setCsA2, setCsA3, ldM, fM0, fM1, szM, zM, plM0, plM1, agM, paM, ldJ, fJ0, fJ1, fJ2, szJ, zJ, plJ0, plJ1, plJ2, agJ, paJ]
    simp [mvcgen_simp, -map_replicate, -map_set, -map_append, -map_reverse, -map_take, -map_drop, -map_tail, -any_map, -all_map, -mapM_map, -map_map, Try.f172]
  · (refine canon_mk ?_; simp [method_specs_simp, ordIds_app, ordRen_app, ordIds_app2, ordRen_app2, -map_replicate, -map_set, -map_append, -map_reverse, -map_take, -map_drop, -map_tail, -map_map, mxK])
/-- The weight of the first k steps. -/
def wAt (p : Int) (a b cs hs : List Int) : Nat → Int
  | 0 => 1
  | k + 1 => if rdI cs k = 76 then wAt p a b cs hs k * rdI a (rdI hs k).toNat % p else if rdI cs k = 68 then wAt p a b cs hs k * rdI b (rdI hs k).toNat % p else wAt p a b cs hs k
theorem wAt_range {p : Int} (hp : 2 ≤ p ∧ p ≤ 10007) (a b cs hs : List Int) : ∀ k, 0 ≤ wAt p a b cs hs k ∧ wAt p a b cs hs k < p
  | 0 => by show 0 ≤ (1 : Int) ∧ (1 : Int) < p; omega
  | k + 1 => by
    have ih := wAt_range hp a b cs hs k
    rw [wAt]; (repeat' split) <;> first | exact mod_small hp _ | exact ih
def lowB (n : Nat) (l : List Int) : Bool := l.all fun h => decide (h < (n : Int))
theorem lowB_at {n : Nat} {l : List Int} (h : lowB n l = true) {k : Nat} (hk : k < l.length) : rdI l k < n := by
  have := List.all_eq_true.1 h _ (List.getElem_mem hk)
  rw [rdI_get hk] at this; simpa using this
def wtR (p : Int) (a b : List Int) (s : ByteArray) (i : Int) : Int × Int :=
  if jacB p a b then (match pathR s i ((a.length : Int) - 1) with
    | some l => if lowB a.length l then (wAt p a b (bl s) l s.size, 0) else (0, 2)
    | none => (0, 2)) else (0, 1)
theorem run_implWeightOfPath (p : Int) (a b : List Int) (s : ByteArray) (i : Int) (ha : a.length ≤ 1048576) (hb : b.length ≤ 1048576) (hs : s.size ≤ 1048576) :
    runv E1 49 [(V.agg [V.int .i64 (p), (V.list (List.length (a)) (List.map (V.int .i64) (a))), (V.list (List.length (b)) (List.map (V.int .i64) (b)))]), .str s, .int .i64 i] = some ⟨true, .tup [.int .i64 (wtR p a b s i).1, .int .i64 (wtR p a b s i).2], [.agg [.undef, .undef, .undef], .undef, .undef]⟩ := by
  have cdk : codeOk Try.f49.ntmps (Try.f49.body.getD .skip) = true := by kernel_rfl
  refine run_of_WLr (fn := Try.f49) rfl Try.func49 rfl ⟨by simp [Try.ntmps49], by simp [wideA, ints], cdk, by simp [Try.f49]⟩ rfl (by simp [rebOk, noId, adoptT, adoptA, adoptL, adoptC, depth]) ?_
  have h1 := up (run_IsJacobi p a b (by omega) (by omega))
  have g3 := up (run_Jfield p a b)
  have g4 := up (run_Jsize p a b)
  cases e : jacB p a b with
  | false =>
    rw [e] at h1
    simp [go_sem, -map_replicate, -map_set, -map_append, -map_reverse, -map_take, -map_drop, -map_tail, -any_map, -all_map, -mapM_map, -map_map, slL, szI, ldI, zI, undL, apL, setI, rdI_get, Nat.add_one_le_iff, fillV, zeros1, zeros0, appendD, segV, lvO, goneOf, sliceD, bound, Nat.add_assoc, szL, ldL, setCs0, setCs1, setCs2, setCsA2, setCsA3, ldM, fM0, fM1, szM, zM, plM0, plM1, agM, paM, ldJ, fJ0, fJ1, fJ2, szJ, zJ, plJ0, plJ1, plJ2, agJ, paJ, h1]
    simp [mvcgen_simp, -map_replicate, -map_set, -map_append, -map_reverse, -map_take, -map_drop, -map_tail, -any_map, -all_map, -mapM_map, -map_map, Try.f49, wtR, e]
  | true =>
    rw [e] at h1
    have hp := jacB_prime e
    have hl := jacB_len e
    have w0 : IntKind.i64.wrap ((a.length : Int) - 1) = (a.length : Int) - 1 := IntWalk.i64_in _ (by omega)
    have h2 := up (run_pathHeights s i ((a.length : Int) - 1) hs (by omega))
    cases eo : pathR s i ((a.length : Int) - 1) with
    | none =>
      rw [eo] at h2
      have hps : wtR p a b s i = (0, 2) := by simp only [wtR, e, eo]; rfl
      simp only [ilist, Option.getD_none, Option.isSome_none, List.length_nil, List.map_nil] at h2
      simp [go_sem, -map_replicate, -map_set, -map_append, -map_reverse, -map_take, -map_drop, -map_tail, -any_map, -all_map, -mapM_map, -map_map, slL, szI, ldI, zI, undL, apL, setI, rdI_get, Nat.add_one_le_iff, fillV, zeros1, zeros0, appendD, segV, lvO, goneOf, sliceD, bound, Nat.add_assoc, szL, ldL, setCs0, setCs1, setCs2, setCsA2, setCsA3, ldM, fM0, fM1, szM, zM, plM0, plM1, agM, paM, ldJ, fJ0, fJ1, fJ2, szJ, zJ, plJ0, plJ1, plJ2, agJ, paJ, h1, h2, g3, g4, w0]
      repeat refine ⟨by kernel_rfl, by kernel_rfl, ?_⟩
      simp [mvcgen_simp, -map_replicate, -map_set, -map_append, -map_reverse, -map_take, -map_drop, -map_tail, -any_map, -all_map, -mapM_map, -map_map, Try.f49, hps]
    | some l =>
      rw [eo] at h2
      simp only [ilist, Option.getD_some, Option.isSome_some] at h2
      have hpl : s.size ≤ 24 ∧ 0 ≤ i ∧ heightsR s i = some l := by
        unfold pathR at eo
        split at eo
        · rename_i q; exact ⟨q.1, q.2.1, eo⟩
        · cases eo
      obtain ⟨ll, lpos⟩ := heightsR_pos hpl.2.2 hpl.2.1
      have h3 := run_Max l (by omega) (by omega)
      have hmx := mxK_lt l a.length (l.length - 1)
      have tl : List.take l.length (List.map (V.int .i64) l) = List.map (V.int .i64) l := take_map_full (Nat.le_refl _)
      by_cases c : mxK l (l.length - 1) < a.length
      · have hlow : lowB a.length l = true := by
          unfold lowB; rw [List.all_eq_true]
          intro x hx
          obtain ⟨j, hj, rfl⟩ := List.getElem_of_mem hx
          rw [rdI_get hj]; simpa using hmx.1 c j (by omega)
        have hps : wtR p a b s i = (wAt p a b (bl s) l s.size, 0) := by simp only [wtR, e, eo, hlow]; rfl
        have c' : ¬ (a.length : Int) ≤ mxK l (l.length - 1) := by omega
        have d1 := up (run_mod p 1 hp)
        rw [Int.emod_eq_of_lt (by omega) (by omega)] at d1
        have c1 : s.size ≤ 140737488355328 := by omega
        have tb := bl_len s
        simp [go_sem, -map_replicate, -map_set, -map_append, -map_reverse, -map_take, -map_drop, -map_tail, -any_map, -all_map, -mapM_map, -map_map, slL, szI, ldI, zI, undL, apL, setI, rdI_get, Nat.add_one_le_iff, fillV, zeros1, zeros0, appendD, segV, lvO, goneOf, sliceD, bound, Nat.add_assoc, szL, ldL, setCs0, setCs1, setCs2, setCsA2, setCsA3, ldM, fM0, fM1, szM, zM, plM0, plM1, agM, paM, ldJ, fJ0, fJ1, fJ2, szJ, zJ, plJ0, plJ1, plJ2, agJ, paJ, h1, h2, h3, g3, g4, w0, c, c', d1, c1, tl, undS, undB, undU8, isU8T, convD, bytesV_bl]
        repeat refine ⟨by kernel_rfl, by kernel_rfl, ?_⟩
        rw [WL_loop]
        refine WL_for (keep := [3, 8, 10, 11, 40, 41, 42]) (rs := resM Try.f49) rfl (by kernel_rfl) (fun k => mkSt [(3, .ptr 0 0 0), (8, .sl 1 0 0 l.length), (10, .int .i64 p), (11, .int .i64 (wAt p a b (bl s) l k)), (40, .sl 2 0 0 s.size), (41, .int .i64 (s.size : Int)), (42, .int .i64 (k : Int))] [some (⟨0, 1, 1, [.int .i64 p, (V.list (List.length (a)) (List.map (V.int .i64) (a))), (V.list (List.length (b)) (List.map (V.int .i64) (b)))]⟩), some (⟨0, 2, 1, l.map (V.int .i64)⟩), some (⟨0, 2, 1, (bl s).map (V.int .u8)⟩)] (resM Try.f49)) s.size ?_ ?_ 0 _ (by omega) rfl ?_
        · intro k hk next
          have rw_ := wAt_range hp a b (bl s) l k
          have hlk := lowB_at hlow (show k < l.length by omega)
          have hk0 := lpos k
          obtain ⟨m, hm⟩ : ∃ m : Nat, rdI l k = (m : Int) := ⟨(rdI l k).toNat, by omega⟩
          have ma : m < a.length := by omega
          have mb : m < b.length := by omega
          have mai : (m : Int) < a.length := by omega
          have mbi : (m : Int) < b.length := by omega
          have ra := jacB_a e ma
          have rb := jacB_b e ma
          have pa := mul_small hp rw_ ra
          have pb := mul_small hp rw_ (show 0 ≤ rdI b m ∧ rdI b m < p by omega)
          have d2 := up (run_mul p (wAt p a b (bl s) l k) (rdI a m) hp (IntWalk.i64_in _ (by omega)))
          have d3 := up (run_mul p (wAt p a b (bl s) l k) (rdI b m) hp (IntWalk.i64_in _ (by omega)))
          have eW : wAt p a b (bl s) l (k + 1) = if rdI (bl s) k = 76 then wAt p a b (bl s) l k * rdI a m % p else if rdI (bl s) k = 68 then wAt p a b (bl s) l k * rdI b m % p else wAt p a b (bl s) l k := by rw [wAt, hm, Int.toNat_natCast]
          have w3 : IntKind.i64.wrap ((k : Int) + 1) = (k : Int) + 1 := IntWalk.i64_in _ (by omega)
          have ks : (k : Int) < s.size := by omega
          have kb : k < (bl s).length := by omega
          have kl : k < l.length := by omega
          have kli : (k : Int) < l.length := by omega
          generalize hc : rdI (bl s) k = ch at *
          by_cases c76 : ch = 76
          · rw [if_pos c76] at eW
            subst c76
            simp [go_sem, -map_replicate, -map_set, -map_append, -map_reverse, -map_take, -map_drop, -map_tail, -any_map, -all_map, -mapM_map, -map_map, slL, szI, ldI, zI, undL, apL, setI, rdI_get, Nat.add_one_le_iff, fillV, zeros1, zeros0, appendD, segV, lvO, goneOf, sliceD, bound, Nat.add_assoc, szL, ldL, setCs0, setCs1, setCs2, setCsA2, setCsA3, ldM, fM0, fM1, szM, zM, plM0, plM1, agM, paM, ldJ, fJ0, fJ1, fJ2, szJ, zJ, plJ0, plJ1, plJ2, agJ, paJ, hk, ks, kb, kl, kli, hc, hm, ma, mai, w3, d2, undB, slB, ldB, szB, undU8]
            repeat refine ⟨by kernel_rfl, by kernel_rfl, ?_⟩
            refine next _ rfl ?_
            (refine canon_mk ?_; simp [method_specs_simp, ordIds_app, ordRen_app, ordIds_app2, ordRen_app2, -map_replicate, -map_set, -map_append, -map_reverse, -map_take, -map_drop, -map_tail, -map_map, eW])
          · rw [if_neg c76] at eW
            by_cases c68 : ch = 68
            · rw [if_pos c68] at eW
              subst c68
              simp [go_sem, -map_replicate, -map_set, -map_append, -map_reverse, -map_take, -map_drop, -map_tail, -any_map, -all_map, -mapM_map, -map_map, slL, szI, ldI, zI, undL, apL, setI, rdI_get, Nat.add_one_le_iff, fillV, zeros1, zeros0, appendD, segV, lvO, goneOf, sliceD, bound, Nat.add_assoc, szL, ldL, setCs0, setCs1, setCs2, setCsA2, setCsA3, ldM, fM0, fM1, szM, zM, plM0, plM1, agM, paM, ldJ, fJ0, fJ1, fJ2, szJ, zJ, plJ0, plJ1, plJ2, agJ, paJ, hk, ks, kb, kl, kli, hc, hm, mb, mbi, w3, d3, undB, slB, ldB, szB, undU8]
              repeat refine ⟨by kernel_rfl, by kernel_rfl, ?_⟩
              refine next _ rfl ?_
              (refine canon_mk ?_; simp [method_specs_simp, ordIds_app, ordRen_app, ordIds_app2, ordRen_app2, -map_replicate, -map_set, -map_append, -map_reverse, -map_take, -map_drop, -map_tail, -map_map, eW])
            · rw [if_neg c68] at eW
              simp [go_sem, -map_replicate, -map_set, -map_append, -map_reverse, -map_take, -map_drop, -map_tail, -any_map, -all_map, -mapM_map, -map_map, slL, szI, ldI, zI, undL, apL, setI, rdI_get, Nat.add_one_le_iff, fillV, zeros1, zeros0, appendD, segV, lvO, goneOf, sliceD, bound, Nat.add_assoc, szL, ldL, setCs0, setCs1, setCs2, setCsA2, setCsA3, ldM, fM0, fM1, szM, zM, plM0, plM1, agM, paM, ldJ, fJ0, fJ1, fJ2, szJ, zJ, plJ0, plJ1, plJ2, agJ, paJ, hk, ks, kb, kl, kli, hc, c76, c68, w3, undB, slB, ldB, szB, undU8]
              repeat refine ⟨by kernel_rfl, by kernel_rfl, ?_⟩
              refine next _ rfl ?_
              (refine canon_mk ?_; simp [method_specs_simp, ordIds_app, ordRen_app, ordIds_app2, ordRen_app2, -map_replicate, -map_set, -map_append, -map_reverse, -map_take, -map_drop, -map_tail, -map_map, eW])
        · simp [go_sem, -map_replicate, -map_set, -map_append, -map_reverse, -map_take, -map_drop, -map_tail, -any_map, -all_map, -mapM_map, -map_map, slL, szI, ldI, zI, undL, apL, setI, rdI_get, Nat.add_one_le_iff, fillV, zeros1, zeros0, appendD, segV, lvO, goneOf, sliceD, bound, Nat.add_assoc, szL, ldL, setCs0, setCs1, setCs2, setCsA2, setCsA3, ldM, fM0, fM1, szM, zM, plM0, plM1, agM, paM, ldJ, fJ0, fJ1, fJ2, szJ, zJ, plJ0, plJ1, plJ2, agJ, paJ]
          simp [mvcgen_simp, -map_replicate, -map_set, -map_append, -map_reverse, -map_take, -map_drop, -map_tail, -any_map, -all_map, -mapM_map, -map_map, Try.f49, hps]
        · (refine canon_mk ?_; simp [method_specs_simp, ordIds_app, ordRen_app, ordIds_app2, ordRen_app2, -map_replicate, -map_set, -map_append, -map_reverse, -map_take, -map_drop, -map_tail, -map_map, wAt])
      · have hlow : lowB a.length l = false := by
          cases x : lowB a.length l
          · rfl
          · exact absurd (hmx.2 fun j hj => lowB_at x (by omega)) c
        have hps : wtR p a b s i = (0, 2) := by simp only [wtR, e, eo, hlow]; rfl
        have c' : (a.length : Int) ≤ mxK l (l.length - 1) := by omega
        simp [go_sem, -map_replicate, -map_set, -map_append, -map_reverse, -map_take, -map_drop, -map_tail, -any_map, -all_map, -mapM_map, -map_map, slL, szI, ldI, zI, undL, apL, setI, rdI_get, Nat.add_one_le_iff, fillV, zeros1, zeros0, appendD, segV, lvO, goneOf, sliceD, bound, Nat.add_assoc, szL, ldL, setCs0, setCs1, setCs2, setCsA2, setCsA3, ldM, fM0, fM1, szM, zM, plM0, plM1, agM, paM, ldJ, fJ0, fJ1, fJ2, szJ, zJ, plJ0, plJ1, plJ2, agJ, paJ, h1, h2, h3, g3, g4, w0, c, c', tl]
        repeat refine ⟨by kernel_rfl, by kernel_rfl, ?_⟩
        simp [mvcgen_simp, -map_replicate, -map_set, -map_append, -map_reverse, -map_take, -map_drop, -map_tail, -any_map, -all_map, -mapM_map, -map_map, Try.f49, hps]
/-- Whether the first k heights are below n. -/
def okW (c : Bool) (n : Nat) (l : List Int) : Nat → Bool
  | 0 => c
  | k + 1 => okW c n l k && decide (rdI l k < (n : Int))
theorem okW_all (c : Bool) (n : Nat) (l : List Int) : ∀ k, k ≤ l.length → okW c n l k = (c && lowB n (l.take k))
  | 0, _ => by simp [okW, lowB]
  | k + 1, h => by
    have hk : k < l.length := by omega
    rw [okW, okW_all c n l k (by omega), List.take_add_one, List.getElem?_eq_getElem hk, rdI_get hk]
    simp [lowB, List.all_append, Bool.and_assoc]
theorem run_specWeightOfPath (p : Int) (a b : List Int) (s : ByteArray) (i : Int) (ha : a.length ≤ 1048576) (hb : b.length ≤ 1048576) (hs : s.size ≤ 1048576) :
    runv E1 50 [(V.agg [V.int .i64 (p), (V.list (List.length (a)) (List.map (V.int .i64) (a))), (V.list (List.length (b)) (List.map (V.int .i64) (b)))]), .str s, .int .i64 i] = some ⟨true, .tup [.int .i64 (wtR p a b s i).1, .int .i64 (wtR p a b s i).2], [.agg [.undef, .undef, .undef], .undef, .undef]⟩ := by
  have cdk : codeOk Try.f50.ntmps (Try.f50.body.getD .skip) = true := by kernel_rfl
  refine run_of_WLr (fn := Try.f50) rfl Try.func50 rfl ⟨by simp [Try.ntmps50], by simp [wideA, ints], cdk, by simp [Try.f50]⟩ rfl (by simp [rebOk, noId, adoptT, adoptA, adoptL, adoptC, depth]) ?_
  have h1 : runv E0 173 [(V.agg [V.int .i64 (p), (V.list (List.length (a)) (List.map (V.int .i64) (a))), (V.list (List.length (b)) (List.map (V.int .i64) (b)))]), .int .i64 0, .list 1 [.int .i64 i]] = some ⟨true, .int .i64 (if jacB p a b then (if inH a i then 0 else 2) else 1), [.agg [.undef, .undef, .undef], .undef, .undef]⟩ := by
    have := run_l09Code p a b [i] 0 ha hb (by simp)
    simpa [Bool.and_assoc] using this
  have h1 := up h1
  have z2 : zerosV 1 [V.int .i64 0] = [.int .i64 0] := rfl
  cases e : jacB p a b with
  | false =>
    rw [e] at h1
    simp only [Bool.false_eq_true, if_false] at h1
    simp [go_sem, -map_replicate, -map_set, -map_append, -map_reverse, -map_take, -map_drop, -map_tail, -any_map, -all_map, -mapM_map, -map_map, slL, szI, ldI, zI, undL, apL, setI, rdI_get, Nat.add_one_le_iff, fillV, zeros1, zeros0, appendD, segV, lvO, goneOf, sliceD, bound, Nat.add_assoc, szL, ldL, setCs0, setCs1, setCs2, setCsA2, setCsA3, ldM, fM0, fM1, szM, zM, plM0, plM1, agM, paM, ldJ, fJ0, fJ1, fJ2, szJ, zJ, plJ0, plJ1, plJ2, agJ, paJ, h1, z2]
    simp [mvcgen_simp, -map_replicate, -map_set, -map_append, -map_reverse, -map_take, -map_drop, -map_tail, -any_map, -all_map, -mapM_map, -map_map, Try.f50, wtR, e]
  | true =>
    rw [e] at h1
    cases e2 : inH a i with
    | false =>
      rw [e2] at h1
      simp only [Bool.false_eq_true, if_false, if_true] at h1
      have hn : pathR s i ((a.length : Int) - 1) = none := by
        unfold pathR; rw [if_neg]; simp only [inH, Bool.and_eq_false_iff, decide_eq_false_iff_not] at e2; omega
      have hps : wtR p a b s i = (0, 2) := by simp only [wtR, e, hn]; rfl
      simp [go_sem, -map_replicate, -map_set, -map_append, -map_reverse, -map_take, -map_drop, -map_tail, -any_map, -all_map, -mapM_map, -map_map, slL, szI, ldI, zI, undL, apL, setI, rdI_get, Nat.add_one_le_iff, fillV, zeros1, zeros0, appendD, segV, lvO, goneOf, sliceD, bound, Nat.add_assoc, szL, ldL, setCs0, setCs1, setCs2, setCsA2, setCsA3, ldM, fM0, fM1, szM, zM, plM0, plM1, agM, paM, ldJ, fJ0, fJ1, fJ2, szJ, zJ, plJ0, plJ1, plJ2, agJ, paJ, h1, z2]
      simp [mvcgen_simp, -map_replicate, -map_set, -map_append, -map_reverse, -map_take, -map_drop, -map_tail, -any_map, -all_map, -mapM_map, -map_map, Try.f50, hps]
    | true =>
      rw [e2] at h1
      simp only [if_true] at h1
      have hp := jacB_prime e
      have hl := jacB_len e
      simp only [inH, Bool.and_eq_true, decide_eq_true_eq] at e2
      have h2 := up (run_l09Heights s i hs (by omega) (by omega))
      have ll : ((heightsR s i).getD []).length ≤ 1048577 := by
        cases eo : heightsR s i with
        | none => simp
        | some q => have := (heightsR_pos eo e2.1).1; simp; omega
      have hcs : wtR p a b s i = if (((heightsR s i).isSome && decide (s.size ≤ 24)) && lowB a.length ((heightsR s i).getD [])) then (wAt p a b (bl s) ((heightsR s i).getD []) s.size, 0) else (0, 2) := by
        simp only [wtR, e, pathR]
        by_cases c : s.size ≤ 24
        · have hh : s.size ≤ 24 ∧ 0 ≤ i ∧ i ≤ (a.length : Int) - 1 := by omega
          rw [if_pos hh]
          cases eo : heightsR s i <;> simp [c]
        · have hh : ¬ (s.size ≤ 24 ∧ 0 ≤ i ∧ i ≤ (a.length : Int) - 1) := by omega
          rw [if_neg hh]
          simp [c]
      have hgood : ((heightsR s i).isSome && decide (s.size ≤ 24)) = true → s.size ≤ 24 ∧ ((heightsR s i).getD []).length = s.size + 1 ∧ ∀ k, 0 ≤ rdI ((heightsR s i).getD []) k := fun h => by
        simp only [Bool.and_eq_true, decide_eq_true_eq] at h
        cases eo : heightsR s i with
        | none => rw [eo] at h; simp at h
        | some q => exact ⟨h.2, heightsR_pos eo e2.1⟩
      generalize (heightsR s i).getD [] = l at *
      generalize ((heightsR s i).isSome && decide (s.size ≤ 24)) = c0 at *
      simp [go_sem, -map_replicate, -map_set, -map_append, -map_reverse, -map_take, -map_drop, -map_tail, -any_map, -all_map, -mapM_map, -map_map, slL, szI, ldI, zI, undL, apL, setI, rdI_get, Nat.add_one_le_iff, fillV, zeros1, zeros0, appendD, segV, lvO, goneOf, sliceD, bound, Nat.add_assoc, szL, ldL, setCs0, setCs1, setCs2, setCsA2, setCsA3, ldM, fM0, fM1, szM, zM, plM0, plM1, agM, paM, ldJ, fJ0, fJ1, fJ2, szJ, zJ, plJ0, plJ1, plJ2, agJ, paJ, h1, h2, z2]
      repeat refine ⟨by kernel_rfl, by kernel_rfl, ?_⟩
      rw [WL_loop]
      refine WL_for (keep := [1, 3, 9, 10, 11]) (rs := resM Try.f50) rfl (by kernel_rfl) (fun k => mkSt [(1, .str s), (3, .ptr 0 0 0), (9, .sl 1 0 0 l.length), (10, .bool (okW c0 a.length l k)), (11, .int .i64 (k : Int))] [some (⟨0, 1, 1, [.int .i64 p, (V.list (List.length (a)) (List.map (V.int .i64) (a))), (V.list (List.length (b)) (List.map (V.int .i64) (b)))]⟩), some (⟨0, 2, 1, l.map (V.int .i64)⟩)] (resM Try.f50)) l.length ?_ ?_ 0 _ (by omega) rfl ?_
      · intro k hk next
        have w3 : IntKind.i64.wrap ((k : Int) + 1) = (k : Int) + 1 := IntWalk.i64_in _ (by omega)
        have kli : (k : Int) < l.length := by omega
        cases v : okW c0 a.length l k with
        | false =>
          simp [go_sem, -map_replicate, -map_set, -map_append, -map_reverse, -map_take, -map_drop, -map_tail, -any_map, -all_map, -mapM_map, -map_map, slL, szI, ldI, zI, undL, apL, setI, rdI_get, Nat.add_one_le_iff, fillV, zeros1, zeros0, appendD, segV, lvO, goneOf, sliceD, bound, Nat.add_assoc, szL, ldL, setCs0, setCs1, setCs2, setCsA2, setCsA3, ldM, fM0, fM1, szM, zM, plM0, plM1, agM, paM, ldJ, fJ0, fJ1, fJ2, szJ, zJ, plJ0, plJ1, plJ2, agJ, paJ, hk, kli, w3]
          repeat refine ⟨by kernel_rfl, by kernel_rfl, ?_⟩
          refine next _ rfl ?_
          (refine canon_mk ?_; simp [method_specs_simp, ordIds_app, ordRen_app, ordIds_app2, ordRen_app2, -map_replicate, -map_set, -map_append, -map_reverse, -map_take, -map_drop, -map_tail, -map_map, okW, v])
        | true =>
          simp [go_sem, -map_replicate, -map_set, -map_append, -map_reverse, -map_take, -map_drop, -map_tail, -any_map, -all_map, -mapM_map, -map_map, slL, szI, ldI, zI, undL, apL, setI, rdI_get, Nat.add_one_le_iff, fillV, zeros1, zeros0, appendD, segV, lvO, goneOf, sliceD, bound, Nat.add_assoc, szL, ldL, setCs0, setCs1, setCs2, setCsA2, setCsA3, ldM, fM0, fM1, szM, zM, plM0, plM1, agM, paM, ldJ, fJ0, fJ1, fJ2, szJ, zJ, plJ0, plJ1, plJ2, agJ, paJ, hk, kli, w3]
          repeat refine ⟨by kernel_rfl, by kernel_rfl, ?_⟩
          refine next _ rfl ?_
          (refine canon_mk ?_; simp [method_specs_simp, ordIds_app, ordRen_app, ordIds_app2, ordRen_app2, -map_replicate, -map_set, -map_append, -map_reverse, -map_take, -map_drop, -map_tail, -map_map, okW, v])
      · have eo := okW_all c0 a.length l l.length (Nat.le_refl _)
        rw [List.take_length] at eo
        rw [← eo] at hcs
        cases v : okW c0 a.length l l.length with
        | false =>
          rw [v] at hcs
          simp only [Bool.false_eq_true, if_false] at hcs
          simp [go_sem, -map_replicate, -map_set, -map_append, -map_reverse, -map_take, -map_drop, -map_tail, -any_map, -all_map, -mapM_map, -map_map, slL, szI, ldI, zI, undL, apL, setI, rdI_get, Nat.add_one_le_iff, fillV, zeros1, zeros0, appendD, segV, lvO, goneOf, sliceD, bound, Nat.add_assoc, szL, ldL, setCs0, setCs1, setCs2, setCsA2, setCsA3, ldM, fM0, fM1, szM, zM, plM0, plM1, agM, paM, ldJ, fJ0, fJ1, fJ2, szJ, zJ, plJ0, plJ1, plJ2, agJ, paJ]
          simp [mvcgen_simp, -map_replicate, -map_set, -map_append, -map_reverse, -map_take, -map_drop, -map_tail, -any_map, -all_map, -mapM_map, -map_map, Try.f50, hcs]
        | true =>
          rw [v] at hcs eo
          simp only [if_true] at hcs
          obtain ⟨e0, hlow⟩ := Bool.and_eq_true_iff.1 eo.symm
          obtain ⟨hsz, hll, lpos⟩ := hgood e0
          have hpz : ¬ p = 0 := by omega
          have d1 : Int.tmod 1 p = 1 := by rw [Int.tmod_eq_emod_of_nonneg (by omega), Int.emod_eq_of_lt (by omega) (by omega)]
          simp [go_sem, -map_replicate, -map_set, -map_append, -map_reverse, -map_take, -map_drop, -map_tail, -any_map, -all_map, -mapM_map, -map_map, slL, szI, ldI, zI, undL, apL, setI, rdI_get, Nat.add_one_le_iff, fillV, zeros1, zeros0, appendD, segV, lvO, goneOf, sliceD, bound, Nat.add_assoc, szL, ldL, setCs0, setCs1, setCs2, setCsA2, setCsA3, ldM, fM0, fM1, szM, zM, plM0, plM1, agM, paM, ldJ, fJ0, fJ1, fJ2, szJ, zJ, plJ0, plJ1, plJ2, agJ, paJ, hpz, d1, wz1]
          repeat refine ⟨by kernel_rfl, by kernel_rfl, ?_⟩
          rw [WL_loop]
          refine WL_for (keep := [1, 3, 9, 12, 13]) (rs := resM Try.f50) rfl (by kernel_rfl) (fun k => mkSt [(1, .str s), (3, .ptr 0 0 0), (9, .sl 1 0 0 l.length), (12, .int .i64 (wAt p a b (bl s) l k)), (13, .int .i64 (k : Int))] [some (⟨0, 1, 1, [.int .i64 p, (V.list (List.length (a)) (List.map (V.int .i64) (a))), (V.list (List.length (b)) (List.map (V.int .i64) (b)))]⟩), some (⟨0, 2, 1, l.map (V.int .i64)⟩)] (resM Try.f50)) s.size ?_ ?_ 0 _ (by omega) rfl ?_
          · intro k hk next
            have rw_ := wAt_range hp a b (bl s) l k
            have hlk := lowB_at hlow (show k < l.length by omega)
            have hk0 := lpos k
            obtain ⟨m, hm⟩ : ∃ m : Nat, rdI l k = (m : Int) := ⟨(rdI l k).toNat, by omega⟩
            have ma : m < a.length := by omega
            have mb : m < b.length := by omega
            have mai : (m : Int) < a.length := by omega
            have mbi : (m : Int) < b.length := by omega
            have ra := jacB_a e ma
            have rb := jacB_b e ma
            have pa := mul_small hp rw_ ra
            have pb := mul_small hp rw_ (show 0 ≤ rdI b m ∧ rdI b m < p by omega)
            have d2 : IntKind.i64.wrap (wAt p a b (bl s) l k * rdI a m) = wAt p a b (bl s) l k * rdI a m := IntWalk.i64_in _ (by omega)
            have d3 : IntKind.i64.wrap (wAt p a b (bl s) l k * rdI b m) = wAt p a b (bl s) l k * rdI b m := IntWalk.i64_in _ (by omega)
            have t2 : (wAt p a b (bl s) l k * rdI a m).tmod p = wAt p a b (bl s) l k * rdI a m % p := Int.tmod_eq_emod_of_nonneg (by omega)
            have t3 : (wAt p a b (bl s) l k * rdI b m).tmod p = wAt p a b (bl s) l k * rdI b m % p := Int.tmod_eq_emod_of_nonneg (by omega)
            have s2 := mod_small hp (wAt p a b (bl s) l k * rdI a m)
            have s3 := mod_small hp (wAt p a b (bl s) l k * rdI b m)
            have u2 : IntKind.i64.wrap (wAt p a b (bl s) l k * rdI a m % p) = wAt p a b (bl s) l k * rdI a m % p := IntWalk.i64_in _ (by omega)
            have u3 : IntKind.i64.wrap (wAt p a b (bl s) l k * rdI b m % p) = wAt p a b (bl s) l k * rdI b m % p := IntWalk.i64_in _ (by omega)
            have eW : wAt p a b (bl s) l (k + 1) = if rdI (bl s) k = 76 then wAt p a b (bl s) l k * rdI a m % p else if rdI (bl s) k = 68 then wAt p a b (bl s) l k * rdI b m % p else wAt p a b (bl s) l k := by rw [wAt, hm, Int.toNat_natCast]
            have w3 : IntKind.i64.wrap ((k : Int) + 1) = (k : Int) + 1 := IntWalk.i64_in _ (by omega)
            have hkd : decide (k < s.size) = true := by simpa using hk
            have kl : k < l.length := by omega
            have kli : (k : Int) < l.length := by omega
            have hb1 := data_at hk
            have hb2 := byteAt_rd hk
            by_cases c76 : rdI (bl s) k = 76
            · rw [if_pos c76] at eW
              rw [c76] at hb2
              simp [go_sem, -map_replicate, -map_set, -map_append, -map_reverse, -map_take, -map_drop, -map_tail, -any_map, -all_map, -mapM_map, -map_map, slL, szI, ldI, zI, undL, apL, setI, rdI_get, Nat.add_one_le_iff, fillV, zeros1, zeros0, appendD, segV, lvO, goneOf, sliceD, bound, Nat.add_assoc, szL, ldL, setCs0, setCs1, setCs2, setCsA2, setCsA3, ldM, fM0, fM1, szM, zM, plM0, plM1, agM, paM, ldJ, fJ0, fJ1, fJ2, szJ, zJ, plJ0, plJ1, plJ2, agJ, paJ, hkd, kl, kli, hb1, hb2, hm, ma, mai, w3, d2, t2, u2, hpz, undS, undB, undU8]
              repeat refine ⟨by kernel_rfl, by kernel_rfl, ?_⟩
              refine next _ rfl ?_
              (refine canon_mk ?_; simp [method_specs_simp, ordIds_app, ordRen_app, ordIds_app2, ordRen_app2, -map_replicate, -map_set, -map_append, -map_reverse, -map_take, -map_drop, -map_tail, -map_map, eW])
            · rw [if_neg c76] at eW
              by_cases c68 : rdI (bl s) k = 68
              · rw [if_pos c68] at eW
                rw [c68] at hb2
                simp [go_sem, -map_replicate, -map_set, -map_append, -map_reverse, -map_take, -map_drop, -map_tail, -any_map, -all_map, -mapM_map, -map_map, slL, szI, ldI, zI, undL, apL, setI, rdI_get, Nat.add_one_le_iff, fillV, zeros1, zeros0, appendD, segV, lvO, goneOf, sliceD, bound, Nat.add_assoc, szL, ldL, setCs0, setCs1, setCs2, setCsA2, setCsA3, ldM, fM0, fM1, szM, zM, plM0, plM1, agM, paM, ldJ, fJ0, fJ1, fJ2, szJ, zJ, plJ0, plJ1, plJ2, agJ, paJ, hkd, kl, kli, hb1, hb2, hm, mb, mbi, w3, d3, t3, u3, hpz, undS, undB, undU8]
                repeat refine ⟨by kernel_rfl, by kernel_rfl, ?_⟩
                refine next _ rfl ?_
                (refine canon_mk ?_; simp [method_specs_simp, ordIds_app, ordRen_app, ordIds_app2, ordRen_app2, -map_replicate, -map_set, -map_append, -map_reverse, -map_take, -map_drop, -map_tail, -map_map, eW])
              · rw [if_neg c68] at eW
                simp [go_sem, -map_replicate, -map_set, -map_append, -map_reverse, -map_take, -map_drop, -map_tail, -any_map, -all_map, -mapM_map, -map_map, slL, szI, ldI, zI, undL, apL, setI, rdI_get, Nat.add_one_le_iff, fillV, zeros1, zeros0, appendD, segV, lvO, goneOf, sliceD, bound, Nat.add_assoc, szL, ldL, setCs0, setCs1, setCs2, setCsA2, setCsA3, ldM, fM0, fM1, szM, zM, plM0, plM1, agM, paM, ldJ, fJ0, fJ1, fJ2, szJ, zJ, plJ0, plJ1, plJ2, agJ, paJ, hkd, kl, kli, hb1, hb2, c76, c68, w3, undS, undB, undU8]
                repeat refine ⟨by kernel_rfl, by kernel_rfl, ?_⟩
                refine next _ rfl ?_
                (refine canon_mk ?_; simp [method_specs_simp, ordIds_app, ordRen_app, ordIds_app2, ordRen_app2, -map_replicate, -map_set, -map_append, -map_reverse, -map_take, -map_drop, -map_tail, -map_map, eW])
          · simp [go_sem, -map_replicate, -map_set, -map_append, -map_reverse, -map_take, -map_drop, -map_tail, -any_map, -all_map, -mapM_map, -map_map, slL, szI, ldI, zI, undL, apL, setI, rdI_get, Nat.add_one_le_iff, fillV, zeros1, zeros0, appendD, segV, lvO, goneOf, sliceD, bound, Nat.add_assoc, szL, ldL, setCs0, setCs1, setCs2, setCsA2, setCsA3, ldM, fM0, fM1, szM, zM, plM0, plM1, agM, paM, ldJ, fJ0, fJ1, fJ2, szJ, zJ, plJ0, plJ1, plJ2, agJ, paJ]
            simp [mvcgen_simp, -map_replicate, -map_set, -map_append, -map_reverse, -map_take, -map_drop, -map_tail, -any_map, -all_map, -mapM_map, -map_map, Try.f50, hcs]
          · (refine canon_mk ?_; simp [method_specs_simp, ordIds_app, ordRen_app, ordIds_app2, ordRen_app2, -map_replicate, -map_set, -map_append, -map_reverse, -map_take, -map_drop, -map_tail, -map_map, wAt])
      · (refine canon_mk ?_; simp [method_specs_simp, ordIds_app, ordRen_app, ordIds_app2, ordRen_app2, -map_replicate, -map_set, -map_append, -map_reverse, -map_take, -map_drop, -map_tail, -map_map, okW])
theorem wtR_len (p : Int) (a b : List Int) (s : ByteArray) (i : Int) : True := trivial

end Go.Proofs.Ytabnganndcmcnaa.Ev
