/- The law of path sums. Conditions: none. -/
import Derived.Test.YtabnganndcmcnaaFnDL
import Derived.Test.YtabnganndcmcnaaFnDN
import Derived.Test.YtabnganndcmcnaaFnDG
import Derived.Test.YtabnganndcmcnaaFnBQ
set_option linter.unusedSimpArgs false
set_option linter.unusedVariables false
namespace Go.Proofs.Ytabnganndcmcnaa.Ev
open Go Go.Proofs
open List (map_replicate map_set map_append map_reverse map_take map_drop map_tail any_map all_map mapM_map map_map)
set_option maxRecDepth 4000
set_option maxHeartbeats 4000000
attribute [local bitvec_to_nat] slL szI ldI zI undL apL setI rdI_get Nat.add_one_le_iff fillV zeros1 zeros0 appendD segV lvO goneOf sliceD bound Nat.add_assoc szL ldL setCs0 setCs1 setCs2 setCsA2 setCsA3 ldM fM0 fM1 szM zM plM0 plM1 agM paM ldJ fJ0 fJ1 fJ2 szJ zJ plJ0 plJ1 plJ2 agJ paJ

theorem smI_tab (n : Nat) (f : Nat → Int) : ∀ k, k ≤ n → smI (tab n f) k = sm f k
  | 0, _ => rfl
  | k + 1, h => by rw [smI, sm, smI_tab n f k (by omega), tab_rd (by omega)]
theorem tri_rd {p : Int} {a b : List Int} {n i : Nat} (h : i ≤ n) : rdI (triRow p a b n) i = wA p a b a.length 0 n i := by
  unfold triRow; exact rdI_take (by omega)
theorem run_lawPathSums (code : List Int) (h_code : code.length ≤ 9223372036854775807) (hb : ∀ z, z ∈ code → 0 ≤ z ∧ z ≤ 255) :
    runv E1 6 [.list code.length (code.map (V.int .u8))] = some ⟨true, .bool true, [.undef]⟩ := by
  have g0 := run_big code
  by_cases hl : 4096 < (code.length : Int)
  · have cdk : codeOk Try.f6.ntmps (Try.f6.body.getD .skip) = true := by kernel_rfl
    refine run_of_WLr (fn := Try.f6) rfl Try.func6 rfl ⟨by simp [Try.ntmps6], by simp [wideA, ints], cdk, by simp [Try.f6]⟩ rfl (by simp [rebOk, noId, adoptT, adoptA, adoptL, adoptC, depth]) ?_
    simp [go_sem, -map_replicate, -map_set, -map_append, -map_reverse, -map_take, -map_drop, -map_tail, -any_map, -all_map, -mapM_map, -map_map, slL, szI, ldI, zI, undL, apL, setI, rdI_get, Nat.add_one_le_iff, fillV, zeros1, zeros0, appendD, segV, lvO, goneOf, sliceD, bound, Nat.add_assoc, g0, hl]
    simp [mvcgen_simp, -map_replicate, -map_set, -map_append, -map_reverse, -map_take, -map_drop, -map_tail, -any_map, -all_map, -mapM_map, -map_map, Try.f6]
  have hl' : code.length ≤ 4096 := by omega
  obtain ⟨p, a, b, hab, d1⟩ := run_DrawPathTriangle code hb hl'
  have t1 := run_implPathTriangle p a b (by omega) (by omega)
  have t2 := run_specPathTriangle p a b (by omega) (by omega)
  have t3 := run_implInverseTriangle p a b (by omega) (by omega)
  have t4 := run_specInverseTriangle p a b (by omega) (by omega)
  -- turning sums
  obtain ⟨p2, a2, b2, n2, hab2, d2⟩ := run_DrawTurningSums code hb hl'
  have u1 := up (run_implTurningSums p2 a2 b2 n2 (by omega) (by omega))
  have u2 := up (run_specTurningSums p2 a2 b2 n2 (by omega) (by omega))
  have u3 := run_likeInts (turns p2 a2 b2 n2).1 (turns_len p2 a2 b2 n2 (by omega) (by omega))
  have u9 : (turns p2 a2 b2 n2).2 = 0 → runv E1 63 [(V.agg [V.int .i64 (p2), (V.list (List.length (a2)) (List.map (V.int .i64) (a2))), (V.list (List.length (b2)) (List.map (V.int .i64) (b2)))]), .int .i64 n2, .int .i64 0, .int .i64 0] = some ⟨true, .tup [.int .i64 (psum p2 a2 b2 n2 0 0).1, .int .i64 0], [.agg [.undef, .undef, .undef], .undef, .undef, .undef]⟩ ∧ runv E1 67 [(V.list (List.length ((turns p2 a2 b2 n2).1)) (List.map (V.int .i64) ((turns p2 a2 b2 n2).1)))] = some ⟨true, (V.int .i64 (smI (turns p2 a2 b2 n2).1 (turns p2 a2 b2 n2).1.length)), [.undef]⟩ ∧ ¬ p2 = 0 ∧ (smI (turns p2 a2 b2 n2).1 (turns p2 a2 b2 n2).1.length).tmod p2 = (psum p2 a2 b2 n2 0 0).1 := by
    intro h
    unfold turns at h
    split at h
    · rename_i hj
      split at h
      · rename_i hn
        have hp := jacB_prime hj
        have hln := jacB_len hj
        have hn' := hn
        simp only [Bool.and_eq_true, decide_eq_true_eq] at hn'
        have e : turns p2 a2 b2 n2 = (tab a2.length (turnH p2 a2 b2 n2.toNat), 0) := by unfold turns; rw [hj, if_pos rfl, if_pos hn]
        have e0 : inH a2 0 = true := by simp [inH]; omega
        have eP : psum p2 a2 b2 n2 0 0 = (wA p2 a2 b2 a2.length 0 n2.toNat 0, 0) := by
          unfold psum
          rw [hj, hn, e0]; rfl
        have h1 := up (run_implPathSum p2 a2 b2 n2 0 0 (by omega) (by omega))
        rw [eP] at h1 ⊢
        rw [e]
        have hr : ∀ i, 0 ≤ rdI (tab a2.length (turnH p2 a2 b2 n2.toNat)) i ∧ rdI (tab a2.length (turnH p2 a2 b2 n2.toNat)) i ≤ 100000 := fun i => by
          by_cases hi : i < a2.length
          · rw [tab_rd hi]
            have := mod_small hp (upToH p2 a2 b2 n2.toNat (i + 1) - upToH p2 a2 b2 n2.toNat i)
            unfold turnH; omega
          · rw [rdI_out (by rw [tab_len]; omega)]; omega
        have h2 := run_sumL _ (by rw [tab_len]; omega) hr
        refine ⟨h1, h2, by omega, ?_⟩
        have h3 := smI_range hr (tab a2.length (turnH p2 a2 b2 n2.toNat)).length
        rw [Int.tmod_eq_emod_of_nonneg h3.1, tab_len, smI_tab _ _ _ (Nat.le_refl _)]
        have h4 := (turn_sum (p := p2) a2 b2 n2.toNat a2.length).mod (by omega)
        rw [h4]
        obtain ⟨r, hr⟩ : ∃ r, a2.length = r + 1 := ⟨a2.length - 1, by omega⟩
        rw [hr]
        show rdI (fromJ p2 a2 b2 (r + 1) 0 n2.toNat) 0 % p2 = _
        have := wA_fine hp a2 b2 (r + 1) 0 n2.toNat 0
        exact Int.emod_eq_of_lt this.1 this.2
      · cases h
    · cases h
  -- sums over paths one by one
  obtain ⟨p3, a3, b3, m3, i3, k3, hab3, d3⟩ := run_DrawPathSum code hb hl'
  have v1 := up (run_implPathSum p3 a3 b3 m3 i3 k3 (by omega) (by omega))
  have v2 := up (run_specPathSum p3 a3 b3 m3 i3 k3 (by omega) (by omega))
  have v4 := run_implPathsOf m3 i3 k3 ((a3.length : Int) - 1)
  have v6 := pathsR_len m3 i3 k3 ((a3.length : Int) - 1)
  have v9 : (psum p3 a3 b3 m3 i3 k3).2 = 0 → jacB p3 a3 b3 = true ∧ inH a3 i3 = true := by
    intro h
    unfold psum at h
    split at h
    · rename_i hj
      split at h
      · rename_i hi
        simp only [Bool.and_eq_true] at hi
        exact ⟨hj, hi.2.1⟩
      · cases h
    · cases h
  have v5 : jacB p3 a3 b3 = true → inH a3 i3 = true → ∀ s, s ∈ (pathsR m3 i3 k3 ((a3.length : Int) - 1)).1 → runv E1 49 [(V.agg [V.int .i64 (p3), (V.list (List.length (a3)) (List.map (V.int .i64) (a3))), (V.list (List.length (b3)) (List.map (V.int .i64) (b3)))]), .str s, .int .i64 i3] = some ⟨true, .tup [.int .i64 (wtR p3 a3 b3 s i3).1, .int .i64 0], [.agg [.undef, .undef, .undef], .undef, .undef]⟩ ∧ 0 ≤ (wtR p3 a3 b3 s i3).1 ∧ (wtR p3 a3 b3 s i3).1 < 10007 := fun hj hi s hs => by
    obtain ⟨h1, _, h3⟩ := wtR_path hj hs hi
    have h := run_implWeightOfPath p3 a3 b3 s i3 (by omega) (by omega) (by omega)
    rw [h1] at h
    refine ⟨h, ?_⟩
    have hp := jacB_prime hj
    unfold wtR
    rw [hj]
    simp only [if_true]
    split
    · split
      · have := wAt_range hp a3 b3 (bl s) ‹_› s.size; simp only; omega
      · simp
    · simp
  have g3 : IntKind.i64.wrap (a3.length : Int) = a3.length := IntWalk.i64_in _ (by omega)
  have g4 : IntKind.i64.wrap ((a3.length : Int) - 1) = a3.length - 1 := IntWalk.i64_in _ (by omega)
  have cdk : codeOk Try.f6.ntmps (Try.f6.body.getD .skip) = true := by kernel_rfl
  refine run_of_WLr (fn := Try.f6) rfl Try.func6 rfl ⟨by simp [Try.ntmps6], by simp [wideA, ints], cdk, by simp [Try.f6]⟩ rfl (by simp [rebOk, noId, adoptT, adoptA, adoptL, adoptC, depth]) ?_
  cases e : jacB p a b with
  | false =>
    have eT : triR p a b = ([], 1) := by unfold triR; rw [e]; rfl
    have eI : invR p a b = ([], 1) := by unfold invR; rw [e]; rfl
    rw [eT] at t1 t2
    rw [eI] at t3 t4
    have t5 := run_rows5 [] (by simp) (by simp)
    simp only [List.map_nil, List.length_nil] at t1 t2 t3 t4 t5
    by_cases z2 : (turns p2 a2 b2 n2).2 = 0
    · obtain ⟨u4, u5, u6, u7⟩ := u9 z2
      rw [z2] at u1 u2
      by_cases z3 : (psum p3 a3 b3 m3 i3 k3).2 = 0
      · rw [z3] at v1 v2
        obtain ⟨j3, v3⟩ := v9 z3
        by_cases m5 : m3 ≤ 5
        · by_cases z4 : (pathsR m3 i3 k3 ((a3.length : Int) - 1)).2 = 0
          · have v4' := v4
            rw [z4] at v4'
            have tot := path_total j3 z3 z4
            have v5' := v5 j3 v3
            have tr := twS_range (jacB_prime j3) (fun s => (wtR p3 a3 b3 s i3).1) (pathsR m3 i3 k3 ((a3.length : Int) - 1)).1
            have pp := jacB_prime j3
            have v6' := v6
            generalize (pathsR m3 i3 k3 ((a3.length : Int) - 1)).1 = ps at *
            have lps : (ps.map V.str).length = ps.length := List.length_map _
            simp [go_sem, -map_replicate, -map_set, -map_append, -map_reverse, -map_take, -map_drop, -map_tail, -any_map, -all_map, -mapM_map, -map_map, bitvec_to_nat, slStrD, ldStrD, undStrSD, slR', undR', g0, hl, d1, t1, t2, t3, t4, t5, d2, u1, u2, u3, u4, u5, u6, u7, d3, v1, v2, v4', m5, g3, g4]
            repeat refine ⟨by kernel_rfl, by kernel_rfl, ?_⟩
            rw [WL_loop]
            refine WL_for (keep := [31, 33, 35, 39, 41, 42]) (rs := resM Try.f6) rfl (by kernel_rfl) (fun x => mkSt [(31, .ptr 0 0 0), (33, .int .i64 i3), (35, .int .i64 (psum p3 a3 b3 m3 i3 k3).1), (39, .sl 1 0 0 ps.length), (41, .int .i64 (twS p3 (fun s => (wtR p3 a3 b3 s i3).1) ps x)), (42, .int .i64 (x : Int))] [some (⟨0, 1, 1, [.int .i64 p3, (V.list (List.length (a3)) (List.map (V.int .i64) (a3))), (V.list (List.length (b3)) (List.map (V.int .i64) (b3)))]⟩), some (⟨0, 2, 1, ps.map V.str⟩)] (resM Try.f6)) ps.length ?_ ?_ 0 _ (by omega) rfl ?_
            · intro x hx next
              have xi : (x : Int) < ps.length := by omega
              have wx := v5' ps[x] (List.getElem_mem hx)
              have wr : runv E1 49 [(V.agg [V.int .i64 (p3), (V.list (List.length (a3)) (List.map (V.int .i64) (a3))), (V.list (List.length (b3)) (List.map (V.int .i64) (b3)))]), .str ps[x], .int .i64 i3] = some ⟨true, .tup [.int .i64 (wtR p3 a3 b3 ps[x] i3).1, .int .i64 0], [.agg [.undef, .undef, .undef], .undef, .undef]⟩ := wx.1
              have e1 : twS p3 (fun s => (wtR p3 a3 b3 s i3).1) ps (x + 1) = (twS p3 (fun s => (wtR p3 a3 b3 s i3).1) ps x + (wtR p3 a3 b3 ps[x] i3).1) % p3 := by
                rw [twS, List.getD_eq_getElem?_getD, List.getElem?_eq_getElem hx, Option.getD_some]
              rw [e1] at next
              have t1 := tr x
              have t2 := wx.2
              generalize twS p3 (fun s => (wtR p3 a3 b3 s i3).1) ps x = tx at *
              generalize (wtR p3 a3 b3 ps[x] i3).1 = wv at *
              have q1 : IntKind.i64.wrap (tx + wv) = tx + wv := IntWalk.i64_in _ (by omega)
              have q2 : (tx + wv).tmod p3 = (tx + wv) % p3 := Int.tmod_eq_emod_of_nonneg (by omega)
              have q3 : ¬ p3 = 0 := by omega
              have q4 : IntKind.i64.wrap ((x : Int) + 1) = (x : Int) + 1 := IntWalk.i64_in _ (by omega)
              simp [go_sem, -map_replicate, -map_set, -map_append, -map_reverse, -map_take, -map_drop, -map_tail, -any_map, -all_map, -mapM_map, -map_map, bitvec_to_nat, slStrD, ldStrD, undStrSD, hx, xi, wr, q1, q2, q3, q4]
              repeat refine ⟨by kernel_rfl, by kernel_rfl, ?_⟩
              refine next _ rfl ?_
              (refine canon_mk ?_; simp [method_specs_simp, ordIds_app, ordRen_app, ordIds_app2, ordRen_app2, -map_replicate, -map_set, -map_append, -map_reverse, -map_take, -map_drop, -map_tail, -map_map, ordIds_str, ordRen_str])
            · rw [tot]
              simp [go_sem, -map_replicate, -map_set, -map_append, -map_reverse, -map_take, -map_drop, -map_tail, -any_map, -all_map, -mapM_map, -map_map, bitvec_to_nat, slStrD, ldStrD, undStrSD]
              simp [mvcgen_simp, -map_replicate, -map_set, -map_append, -map_reverse, -map_take, -map_drop, -map_tail, -any_map, -all_map, -mapM_map, -map_map, Try.f6, szL, ldL, setCs0, setCs1, setCs2, setCsA2, setCsA3, ldM, fM0, fM1, szM, zM, plM0, plM1, agM, paM, ldJ, fJ0, fJ1, fJ2, szJ, zJ, plJ0, plJ1, plJ2, agJ, paJ, loadD, viewN]
            · (refine canon_mk ?_; simp [method_specs_simp, ordIds_app, ordRen_app, ordIds_app2, ordRen_app2, -map_replicate, -map_set, -map_append, -map_reverse, -map_take, -map_drop, -map_tail, -map_map, ordIds_str, ordRen_str, twS])
          · have v4' := v4
            as_aux_lemma =>
              simp [go_sem, -map_replicate, -map_set, -map_append, -map_reverse, -map_take, -map_drop, -map_tail, -any_map, -all_map, -mapM_map, -map_map, bitvec_to_nat, slR', undR', g0, hl, d1, t1, t2, t3, t4, t5, d2, u1, u2, u3, u4, u5, u6, u7, d3, v1, v2, v4', m5, z4, g3, g4, slStrD, ldStrD, undStrSD]
              repeat refine ⟨by kernel_rfl, by kernel_rfl, ?_⟩
              simp [mvcgen_simp, -map_replicate, -map_set, -map_append, -map_reverse, -map_take, -map_drop, -map_tail, -any_map, -all_map, -mapM_map, -map_map, Try.f6, szL, ldL, setCs0, setCs1, setCs2, setCsA2, setCsA3, ldM, fM0, fM1, szM, zM, plM0, plM1, agM, paM, ldJ, fJ0, fJ1, fJ2, szJ, zJ, plJ0, plJ1, plJ2, agJ, paJ, loadD, viewN]
        ·
          as_aux_lemma =>
            simp [go_sem, -map_replicate, -map_set, -map_append, -map_reverse, -map_take, -map_drop, -map_tail, -any_map, -all_map, -mapM_map, -map_map, bitvec_to_nat, slR', undR', g0, hl, d1, t1, t2, t3, t4, t5, d2, u1, u2, u3, u4, u5, u6, u7, d3, v1, v2, m5]
            repeat refine ⟨by kernel_rfl, by kernel_rfl, ?_⟩
            simp [mvcgen_simp, -map_replicate, -map_set, -map_append, -map_reverse, -map_take, -map_drop, -map_tail, -any_map, -all_map, -mapM_map, -map_map, Try.f6, szL, ldL, setCs0, setCs1, setCs2, setCsA2, setCsA3, ldM, fM0, fM1, szM, zM, plM0, plM1, agM, paM, ldJ, fJ0, fJ1, fJ2, szJ, zJ, plJ0, plJ1, plJ2, agJ, paJ, loadD, viewN]
      ·
        as_aux_lemma =>
          simp [go_sem, -map_replicate, -map_set, -map_append, -map_reverse, -map_take, -map_drop, -map_tail, -any_map, -all_map, -mapM_map, -map_map, bitvec_to_nat, slR', undR', g0, hl, d1, t1, t2, t3, t4, t5, d2, u1, u2, u3, u4, u5, u6, u7, d3, v1, v2, z3]
          repeat refine ⟨by kernel_rfl, by kernel_rfl, ?_⟩
          simp [mvcgen_simp, -map_replicate, -map_set, -map_append, -map_reverse, -map_take, -map_drop, -map_tail, -any_map, -all_map, -mapM_map, -map_map, Try.f6, szL, ldL, setCs0, setCs1, setCs2, setCsA2, setCsA3, ldM, fM0, fM1, szM, zM, plM0, plM1, agM, paM, ldJ, fJ0, fJ1, fJ2, szJ, zJ, plJ0, plJ1, plJ2, agJ, paJ, loadD, viewN]
    ·
      by_cases z3 : (psum p3 a3 b3 m3 i3 k3).2 = 0
      · rw [z3] at v1 v2
        obtain ⟨j3, v3⟩ := v9 z3
        by_cases m5 : m3 ≤ 5
        · by_cases z4 : (pathsR m3 i3 k3 ((a3.length : Int) - 1)).2 = 0
          · have v4' := v4
            rw [z4] at v4'
            have tot := path_total j3 z3 z4
            have v5' := v5 j3 v3
            have tr := twS_range (jacB_prime j3) (fun s => (wtR p3 a3 b3 s i3).1) (pathsR m3 i3 k3 ((a3.length : Int) - 1)).1
            have pp := jacB_prime j3
            have v6' := v6
            generalize (pathsR m3 i3 k3 ((a3.length : Int) - 1)).1 = ps at *
            have lps : (ps.map V.str).length = ps.length := List.length_map _
            simp [go_sem, -map_replicate, -map_set, -map_append, -map_reverse, -map_take, -map_drop, -map_tail, -any_map, -all_map, -mapM_map, -map_map, bitvec_to_nat, slStrD, ldStrD, undStrSD, slR', undR', g0, hl, d1, t1, t2, t3, t4, t5, d2, u1, u2, u3, z2, d3, v1, v2, v4', m5, g3, g4]
            repeat refine ⟨by kernel_rfl, by kernel_rfl, ?_⟩
            rw [WL_loop]
            refine WL_for (keep := [31, 33, 35, 39, 41, 42]) (rs := resM Try.f6) rfl (by kernel_rfl) (fun x => mkSt [(31, .ptr 0 0 0), (33, .int .i64 i3), (35, .int .i64 (psum p3 a3 b3 m3 i3 k3).1), (39, .sl 1 0 0 ps.length), (41, .int .i64 (twS p3 (fun s => (wtR p3 a3 b3 s i3).1) ps x)), (42, .int .i64 (x : Int))] [some (⟨0, 1, 1, [.int .i64 p3, (V.list (List.length (a3)) (List.map (V.int .i64) (a3))), (V.list (List.length (b3)) (List.map (V.int .i64) (b3)))]⟩), some (⟨0, 2, 1, ps.map V.str⟩)] (resM Try.f6)) ps.length ?_ ?_ 0 _ (by omega) rfl ?_
            · intro x hx next
              have xi : (x : Int) < ps.length := by omega
              have wx := v5' ps[x] (List.getElem_mem hx)
              have wr : runv E1 49 [(V.agg [V.int .i64 (p3), (V.list (List.length (a3)) (List.map (V.int .i64) (a3))), (V.list (List.length (b3)) (List.map (V.int .i64) (b3)))]), .str ps[x], .int .i64 i3] = some ⟨true, .tup [.int .i64 (wtR p3 a3 b3 ps[x] i3).1, .int .i64 0], [.agg [.undef, .undef, .undef], .undef, .undef]⟩ := wx.1
              have e1 : twS p3 (fun s => (wtR p3 a3 b3 s i3).1) ps (x + 1) = (twS p3 (fun s => (wtR p3 a3 b3 s i3).1) ps x + (wtR p3 a3 b3 ps[x] i3).1) % p3 := by
                rw [twS, List.getD_eq_getElem?_getD, List.getElem?_eq_getElem hx, Option.getD_some]
              rw [e1] at next
              have t1 := tr x
              have t2 := wx.2
              generalize twS p3 (fun s => (wtR p3 a3 b3 s i3).1) ps x = tx at *
              generalize (wtR p3 a3 b3 ps[x] i3).1 = wv at *
              have q1 : IntKind.i64.wrap (tx + wv) = tx + wv := IntWalk.i64_in _ (by omega)
              have q2 : (tx + wv).tmod p3 = (tx + wv) % p3 := Int.tmod_eq_emod_of_nonneg (by omega)
              have q3 : ¬ p3 = 0 := by omega
              have q4 : IntKind.i64.wrap ((x : Int) + 1) = (x : Int) + 1 := IntWalk.i64_in _ (by omega)
              simp [go_sem, -map_replicate, -map_set, -map_append, -map_reverse, -map_take, -map_drop, -map_tail, -any_map, -all_map, -mapM_map, -map_map, bitvec_to_nat, slStrD, ldStrD, undStrSD, hx, xi, wr, q1, q2, q3, q4]
              repeat refine ⟨by kernel_rfl, by kernel_rfl, ?_⟩
              refine next _ rfl ?_
              (refine canon_mk ?_; simp [method_specs_simp, ordIds_app, ordRen_app, ordIds_app2, ordRen_app2, -map_replicate, -map_set, -map_append, -map_reverse, -map_take, -map_drop, -map_tail, -map_map, ordIds_str, ordRen_str])
            · rw [tot]
              simp [go_sem, -map_replicate, -map_set, -map_append, -map_reverse, -map_take, -map_drop, -map_tail, -any_map, -all_map, -mapM_map, -map_map, bitvec_to_nat, slStrD, ldStrD, undStrSD]
              simp [mvcgen_simp, -map_replicate, -map_set, -map_append, -map_reverse, -map_take, -map_drop, -map_tail, -any_map, -all_map, -mapM_map, -map_map, Try.f6, szL, ldL, setCs0, setCs1, setCs2, setCsA2, setCsA3, ldM, fM0, fM1, szM, zM, plM0, plM1, agM, paM, ldJ, fJ0, fJ1, fJ2, szJ, zJ, plJ0, plJ1, plJ2, agJ, paJ, loadD, viewN]
            · (refine canon_mk ?_; simp [method_specs_simp, ordIds_app, ordRen_app, ordIds_app2, ordRen_app2, -map_replicate, -map_set, -map_append, -map_reverse, -map_take, -map_drop, -map_tail, -map_map, ordIds_str, ordRen_str, twS])
          · have v4' := v4
            as_aux_lemma =>
              simp [go_sem, -map_replicate, -map_set, -map_append, -map_reverse, -map_take, -map_drop, -map_tail, -any_map, -all_map, -mapM_map, -map_map, bitvec_to_nat, slR', undR', g0, hl, d1, t1, t2, t3, t4, t5, d2, u1, u2, u3, z2, d3, v1, v2, v4', m5, z4, g3, g4, slStrD, ldStrD, undStrSD]
              repeat refine ⟨by kernel_rfl, by kernel_rfl, ?_⟩
              simp [mvcgen_simp, -map_replicate, -map_set, -map_append, -map_reverse, -map_take, -map_drop, -map_tail, -any_map, -all_map, -mapM_map, -map_map, Try.f6, szL, ldL, setCs0, setCs1, setCs2, setCsA2, setCsA3, ldM, fM0, fM1, szM, zM, plM0, plM1, agM, paM, ldJ, fJ0, fJ1, fJ2, szJ, zJ, plJ0, plJ1, plJ2, agJ, paJ, loadD, viewN]
        ·
          as_aux_lemma =>
            simp [go_sem, -map_replicate, -map_set, -map_append, -map_reverse, -map_take, -map_drop, -map_tail, -any_map, -all_map, -mapM_map, -map_map, bitvec_to_nat, slR', undR', g0, hl, d1, t1, t2, t3, t4, t5, d2, u1, u2, u3, z2, d3, v1, v2, m5]
            repeat refine ⟨by kernel_rfl, by kernel_rfl, ?_⟩
            simp [mvcgen_simp, -map_replicate, -map_set, -map_append, -map_reverse, -map_take, -map_drop, -map_tail, -any_map, -all_map, -mapM_map, -map_map, Try.f6, szL, ldL, setCs0, setCs1, setCs2, setCsA2, setCsA3, ldM, fM0, fM1, szM, zM, plM0, plM1, agM, paM, ldJ, fJ0, fJ1, fJ2, szJ, zJ, plJ0, plJ1, plJ2, agJ, paJ, loadD, viewN]
      ·
        as_aux_lemma =>
          simp [go_sem, -map_replicate, -map_set, -map_append, -map_reverse, -map_take, -map_drop, -map_tail, -any_map, -all_map, -mapM_map, -map_map, bitvec_to_nat, slR', undR', g0, hl, d1, t1, t2, t3, t4, t5, d2, u1, u2, u3, z2, d3, v1, v2, z3]
          repeat refine ⟨by kernel_rfl, by kernel_rfl, ?_⟩
          simp [mvcgen_simp, -map_replicate, -map_set, -map_append, -map_reverse, -map_take, -map_drop, -map_tail, -any_map, -all_map, -mapM_map, -map_map, Try.f6, szL, ldL, setCs0, setCs1, setCs2, setCsA2, setCsA3, ldM, fM0, fM1, szM, zM, plM0, plM1, agM, paM, ldJ, fJ0, fJ1, fJ2, szJ, zJ, plJ0, plJ1, plJ2, agJ, paJ, loadD, viewN]
  | true =>
    have hp := jacB_prime e
    have hln := jacB_len e
    have eT : triR p a b = (rws (triRow p a b) a.length, 0) := by unfold triR; rw [e]; rfl
    have eI : invR p a b = (prow p a b a.length, 0) := by unfold invR; rw [e]; rfl
    have b1 := triR_len p a b
    have b2' := invR_len p a b
    rw [eT] at t1 t2 b1
    rw [eI] at t3 t4 b2'
    simp only at t1 t2 t3 t4 b1 b2'
    have t5 := run_rows5 (rws (triRow p a b) a.length) (by omega) (fun f hf => by have := b1.2 f hf; omega)
    have t6 := run_rows5 (prow p a b a.length) (by omega) (fun f hf => by have := b2'.2 f hf; omega)
    rw [rws_len] at t1 t2 t5
    rw [prow_len] at t3 t4 t6
    have lC1 : ((rws (triRow p a b) a.length).map UV).length = a.length := by rw [List.length_map, rws_len]
    have lC2 : ((prow p a b a.length).map UV).length = a.length := by rw [List.length_map, prow_len]
    have tC1 : ((rws (triRow p a b) a.length).map UV).take a.length = (rws (triRow p a b) a.length).map UV := List.take_of_length_le (by omega)
    have tC2 : ((prow p a b a.length).map UV).take a.length = (prow p a b a.length).map UV := List.take_of_length_le (by omega)
    have pC1 : ∀ H, ((rws (triRow p a b) a.length).map UV).mapM (purN H 5) = some ((rws (triRow p a b) a.length).map LV) := fun H => mapM_purN_UV (d := 4) _
    have pC2 : ∀ H, ((prow p a b a.length).map UV).mapM (purN H 5) = some ((prow p a b a.length).map LV) := fun H => mapM_purN_UV (d := 4) _
    have iC1 : ∀ H, ((rws (triRow p a b) a.length).map UV).flatMap (idsN H 5) = [] := fun H => flatMap_idsN_UV (d := 4) _
    have iC2 : ∀ H, ((prow p a b a.length).map UV).flatMap (idsN H 5) = [] := fun H => flatMap_idsN_UV (d := 4) _
    have oC1 : ∀ d, ((rws (triRow p a b) a.length).map UV).flatMap (idsF d) = [] := fun d => ordIds_UV _
    have oC2 : ∀ d, ((prow p a b a.length).map UV).flatMap (idsF d) = [] := fun d => ordIds_UV _
    have rC1 : ∀ ord H, ((rws (triRow p a b) a.length).map UV).map (renC ord H) = (rws (triRow p a b) a.length).map UV := fun _ _ => ordRen_UV _
    have rC2 : ∀ ord H, ((prow p a b a.length).map UV).map (renC ord H) = (prow p a b a.length).map UV := fun _ _ => ordRen_UV _
    have aC1 : ∀ n, n < a.length → ((rws (triRow p a b) a.length).map UV)[n]? = some (V.uniq 1 (n + 1) ((triRow p a b n).map (V.int .i64))) := fun n hn => by
      have := triRow_len (p := p) (b := b) hn
      simp [rws, hn, UV, this]
    have aC2 : ∀ n, n < a.length → ((prow p a b a.length).map UV)[n]? = some (V.uniq 1 (n + 1) ((pl p a b n).1.map (V.int .i64))) := fun n hn => by
      have := pl_length hp a b n
      simp [prow, hn, UV, this]
    generalize (rws (triRow p a b) a.length).map UV = C1 at *
    generalize (prow p a b a.length).map UV = C2 at *
    generalize (rws (triRow p a b) a.length).map LV = D1 at *
    generalize (prow p a b a.length).map LV = D2 at *
    clear b1 b2' eT eI
    simp [go_sem, -map_replicate, -map_set, -map_append, -map_reverse, -map_take, -map_drop, -map_tail, -any_map, -all_map, -mapM_map, -map_map, bitvec_to_nat, slR', undR', g0, hl, d1, t1, t2, t3, t4, t5, t6, lC1, lC2, tC1, tC2, pC1, pC2, iC1, iC2]
    repeat refine ⟨by kernel_rfl, by kernel_rfl, ?_⟩
    rw [WL_loop]
    refine WL_for (keep := [0, 3, 4, 8, 12]) (rs := resM Try.f6) rfl (by kernel_rfl) (fun n => mkSt [(0, .list code.length (code.map (V.int .u8))), (3, .ptr 0 0 0), (4, .sl 1 0 0 a.length), (8, .sl 2 0 0 a.length), (12, .int .i64 (n : Int))] [some (⟨0, 1, 1, [.int .i64 p, (V.list (List.length (a)) (List.map (V.int .i64) (a))), (V.list (List.length (b)) (List.map (V.int .i64) (b)))]⟩), some (⟨0, 2, 1, C1⟩), some (⟨0, 2, 1, C2⟩)] (resM Try.f6)) a.length ?_ ?_ 0 _ (by omega) rfl ?_
    · intro n hn next1
      have hni : (n : Int) < a.length := by omega
      simp [go_sem, -map_replicate, -map_set, -map_append, -map_reverse, -map_take, -map_drop, -map_tail, -any_map, -all_map, -mapM_map, -map_map, bitvec_to_nat, hn, hni, slR', undR']
      repeat refine ⟨by kernel_rfl, by kernel_rfl, ?_⟩
      rw [WL_loop]
      refine WL_for (keep := [0, 3, 4, 8, 12, 13]) (rs := resM Try.f6) rfl (by kernel_rfl) (fun k => mkSt [(0, .list code.length (code.map (V.int .u8))), (3, .ptr 0 0 0), (4, .sl 1 0 0 a.length), (8, .sl 2 0 0 a.length), (12, .int .i64 (n : Int)), (13, .int .i64 (k : Int))] [some (⟨0, 1, 1, [.int .i64 p, (V.list (List.length (a)) (List.map (V.int .i64) (a))), (V.list (List.length (b)) (List.map (V.int .i64) (b)))]⟩), some (⟨0, 2, 1, C1⟩), some (⟨0, 2, 1, C2⟩)] (resM Try.f6)) (n + 1) ?_ ?_ 0 _ (by omega) rfl ?_
      · intro k hk next2
        have hkn : k ≤ n := by omega
        have hkni : (k : Int) ≤ n := by omega
        simp [go_sem, -map_replicate, -map_set, -map_append, -map_reverse, -map_take, -map_drop, -map_tail, -any_map, -all_map, -mapM_map, -map_map, bitvec_to_nat, hkn, hkni]
        repeat refine ⟨by kernel_rfl, by kernel_rfl, ?_⟩
        rw [WL_loop]
        refine WL_forX (keep := [0, 3, 4, 8, 12, 13, 14, 15, 16]) (rs := resM Try.f6) rfl (by kernel_rfl) (α := Nat) (fun i => mkSt [(0, .list code.length (code.map (V.int .u8))), (3, .ptr 0 0 0), (4, .sl 1 0 0 a.length), (8, .sl 2 0 0 a.length), (12, .int .i64 (n : Int)), (13, .int .i64 (k : Int)), (14, .int .i64 (tsm p a b a.length n k (i - k))), (15, .int .i64 0), (16, .int .i64 (i : Int))] [some (⟨0, 1, 1, [.int .i64 p, (V.list (List.length (a)) (List.map (V.int .i64) (a))), (V.list (List.length (b)) (List.map (V.int .i64) (b)))]⟩), some (⟨0, 2, 1, C1⟩), some (⟨0, 2, 1, C2⟩)] (resM Try.f6)) (fun i => k ≤ i ∧ i ≤ n + 1) (fun i => n + 1 - i) ?_ k _ ⟨Nat.le_refl _, by omega⟩ rfl ?_
        · rintro i ⟨q1, q2⟩ next3
          by_cases hin : i ≤ n
          · have hini : (i : Int) ≤ n := by omega
            have hir : i < a.length := by omega
            have e1 : tsm p a b a.length n k (i + 1 - k) = (tsm p a b a.length n k (i - k) + wA p a b a.length 0 n i * Pc p a b i k) % p := by
              rw [show i + 1 - k = i - k + 1 by omega, tsm, show k + (i - k) = i by omega]
            have n3 := next3 (i + 1)
            try simp only at n3
            rw [e1] at n3
            have f1 := tsm_range hp a b a.length n k (i - k)
            have f2 := wA_fine hp a b a.length 0 n i
            have f3 := Pc_fine hp a b i k
            have f4 := mul_small hp f2 f3
            have c1 := aC1 n hn
            have c2 := aC2 i hir
            have l1 := triRow_len (p := p) (b := b) hn
            have l2 := pl_length hp a b i
            have x1 := tri_rd (p := p) (a := a) (b := b) hin
            have x2 : rdI (pl p a b i).1 k = Pc p a b i k := rfl
            generalize triRow p a b n = TR at *
            generalize (pl p a b i).1 = QR at *
            generalize tsm p a b a.length n k (i - k) = tt at *
            generalize wA p a b a.length 0 n i = ww at *
            generalize Pc p a b i k = pp at *
            have c1' : ∀ h : n < C1.length, C1[n] = V.uniq 1 (n + 1) (TR.map (V.int .i64)) := fun h => by rw [List.getElem?_eq_getElem h] at c1; injection c1
            have c2' : ∀ h : i < C2.length, C2[i] = V.uniq 1 (i + 1) (QR.map (V.int .i64)) := fun h => by rw [List.getElem?_eq_getElem h] at c2; injection c2
            have y1 : i < n + 1 := by omega
            have y1i : (i : Int) < (n : Int) + 1 := by omega
            have y2 : k < i + 1 := by omega
            have y2i : (k : Int) < (i : Int) + 1 := by omega
            have hiri : (i : Int) < a.length := by omega
            have y3 : i < TR.length := by omega
            have y4 : k < QR.length := by omega
            have w1 : IntKind.i64.wrap (ww * pp) = ww * pp := IntWalk.i64_in _ (by omega)
            have w2 : IntKind.i64.wrap (tt + ww * pp) = tt + ww * pp := IntWalk.i64_in _ (by omega)
            have w3 : (tt + ww * pp).tmod p = (tt + ww * pp) % p := Int.tmod_eq_emod_of_nonneg (by omega)
            have w4 : ¬ p = 0 := by omega
            have w5 : IntKind.i64.wrap ((i : Int) + 1) = (i : Int) + 1 := IntWalk.i64_in _ (by omega)
            as_aux_lemma =>
              simp [go_sem, -map_replicate, -map_set, -map_append, -map_reverse, -map_take, -map_drop, -map_tail, -any_map, -all_map, -mapM_map, -map_map, bitvec_to_nat, slR', undR', hin, hini, hn, hni, hir, hiri, c1, c2, c1', c2', lC1, lC2, l1, l2, x1, x2, y1, y1i, y2, y2i, y3, y4, w1, w2, w3, w4, w5]
              repeat refine ⟨by kernel_rfl, by kernel_rfl, ?_⟩
              refine n3 _ ⟨by omega, by omega⟩ (by omega) rfl ?_
              (refine canon_mk ?_; simp [method_specs_simp, ordIds_app, ordRen_app, ordIds_app2, ordRen_app2, -map_replicate, -map_set, -map_append, -map_reverse, -map_take, -map_drop, -map_tail, -map_map, oC1, oC2, rC1, rC2])
          · have hi : i = n + 1 := by omega
            subst hi
            have hu := tsm_unit hp a b hn hkn
            have hin' : ¬ (n : Int) + 1 ≤ n := by omega
            have w5 : IntKind.i64.wrap ((k : Int) + 1) = (k : Int) + 1 := IntWalk.i64_in _ (by omega)
            try dsimp only
            rw [hu]
            by_cases hnk : n = k
            · subst hnk
              as_aux_lemma =>
                simp [go_sem, -map_replicate, -map_set, -map_append, -map_reverse, -map_take, -map_drop, -map_tail, -any_map, -all_map, -mapM_map, -map_map, bitvec_to_nat, hin', w5]
                repeat refine ⟨by kernel_rfl, by kernel_rfl, ?_⟩
                refine next2 _ rfl ?_
                (refine canon_mk ?_; simp [method_specs_simp, ordIds_app, ordRen_app, ordIds_app2, ordRen_app2, -map_replicate, -map_set, -map_append, -map_reverse, -map_take, -map_drop, -map_tail, -map_map, oC1, oC2, rC1, rC2])
            · have hnki : ¬ (n : Int) = k := by omega
              as_aux_lemma =>
                simp [go_sem, -map_replicate, -map_set, -map_append, -map_reverse, -map_take, -map_drop, -map_tail, -any_map, -all_map, -mapM_map, -map_map, bitvec_to_nat, hin', hnk, hnki, w5]
                repeat refine ⟨by kernel_rfl, by kernel_rfl, ?_⟩
                refine next2 _ rfl ?_
                (refine canon_mk ?_; simp [method_specs_simp, ordIds_app, ordRen_app, ordIds_app2, ordRen_app2, -map_replicate, -map_set, -map_append, -map_reverse, -map_take, -map_drop, -map_tail, -map_map, oC1, oC2, rC1, rC2])
        · rw [Nat.sub_self]
          (refine canon_mk ?_; simp [method_specs_simp, ordIds_app, ordRen_app, ordIds_app2, ordRen_app2, -map_replicate, -map_set, -map_append, -map_reverse, -map_take, -map_drop, -map_tail, -map_map, oC1, oC2, rC1, rC2, tsm])
      · have hin' : ¬ (n : Int) + 1 ≤ n := by omega
        have w5 : IntKind.i64.wrap ((n : Int) + 1) = (n : Int) + 1 := IntWalk.i64_in _ (by omega)
        as_aux_lemma =>
          simp [go_sem, -map_replicate, -map_set, -map_append, -map_reverse, -map_take, -map_drop, -map_tail, -any_map, -all_map, -mapM_map, -map_map, bitvec_to_nat, hin', w5]
          repeat refine ⟨by kernel_rfl, by kernel_rfl, ?_⟩
          refine next1 _ rfl ?_
          (refine canon_mk ?_; simp [method_specs_simp, ordIds_app, ordRen_app, ordIds_app2, ordRen_app2, -map_replicate, -map_set, -map_append, -map_reverse, -map_take, -map_drop, -map_tail, -map_map, oC1, oC2, rC1, rC2])
      · (refine canon_mk ?_; simp [method_specs_simp, ordIds_app, ordRen_app, ordIds_app2, ordRen_app2, -map_replicate, -map_set, -map_append, -map_reverse, -map_take, -map_drop, -map_tail, -map_map, oC1, oC2, rC1, rC2])
    · -- the moments
      have eM : momJ p a b (2 * (a.length : Int)) = (p, tab (2 * a.length) (mo p a b), 0) := by
        unfold momJ
        rw [e]
        have h1 : (decide (1 ≤ 2 * (a.length : Int)) && decide (2 * (a.length : Int) ≤ 2 * (a.length : Int))) = true := by simp; omega
        rw [if_pos rfl, h1, if_pos rfl, show (2 * (a.length : Int)).toNat = 2 * a.length by omega]
      have m1 := run_implMomentsOfJacobi p a b (2 * (a.length : Int)) (by omega) (by omega)
      rw [eM] at m1
      simp only at m1
      rw [tab_len] at m1
      have w1 : IntKind.i64.wrap (a.length : Int) = a.length := IntWalk.i64_in _ (by omega)
      have w2 : IntKind.i64.wrap (2 * (a.length : Int)) = 2 * (a.length : Int) := IntWalk.i64_in _ (by omega)
      have lM : (tab (2 * a.length) (mo p a b)).length = 2 * a.length := tab_len _ _
      have aM : ∀ n, n < 2 * a.length → rdI (tab (2 * a.length) (mo p a b)) n = mo p a b n := fun n h => tab_rd h
      generalize tab (2 * a.length) (mo p a b) = ML at *
      simp [go_sem, -map_replicate, -map_set, -map_append, -map_reverse, -map_take, -map_drop, -map_tail, -any_map, -all_map, -mapM_map, -map_map, bitvec_to_nat, m1, w1, w2]
      repeat refine ⟨by kernel_rfl, by kernel_rfl, ?_⟩
      rw [WL_loop]
      refine WL_for (keep := [0, 3, 17, 18, 20]) (rs := resM Try.f6) rfl (by kernel_rfl) (fun n => mkSt [(0, .list code.length (code.map (V.int .u8))), (3, .ptr 0 0 0), (17, .int .i64 (a.length : Int)), (18, .ptr 1 0 0), (20, .int .i64 (n : Int))] [some (⟨0, 1, 1, [.int .i64 p, (V.list (List.length (a)) (List.map (V.int .i64) (a))), (V.list (List.length (b)) (List.map (V.int .i64) (b)))]⟩), some (⟨0, 1, 1, [.int .i64 p, .sl 2 0 0 (2 * a.length)]⟩), some (⟨0, 2, 1, ML.map (V.int .i64)⟩)] (resM Try.f6)) (2 * a.length) ?_ ?_ 0 _ (by omega) rfl ?_
      · intro n hn next
        have hni : (n : Int) < 2 * (a.length : Int) := by omega
        have e0 : inH a 0 = true := by simp [inH]; omega
        have eP : psum p a b n 0 0 = (wA p a b a.length 0 n 0, 0) := by
          unfold psum
          have h1 : (decide (0 ≤ (n : Int)) && decide ((n : Int) ≤ 24)) = true := by simp; omega
          rw [e, h1, e0]; rfl
        have h1 := up (run_implPathSum p a b n 0 0 (by omega) (by omega))
        rw [eP] at h1
        simp only at h1
        have f2 := wA_fine hp a b a.length 0 n 0
        have f3 := jacB_b e (show 0 < a.length by omega)
        have f4 := mul_small hp f2 (show 0 ≤ rdI b 0 ∧ rdI b 0 < p by omega)
        have x1 := aM n hn
        have x2 : (wA p a b a.length 0 n 0 * rdI b 0) % p = mo p a b n := by
          have := mA_wA hp a b (by omega) n
          unfold mo
          show _ = rdI b 0 * mA p a b n 0 % p
          rw [this, Int.mul_comm]
        generalize wA p a b a.length 0 n 0 = ww at *
        have x3 : IntKind.i64.wrap (ww * rdI b 0) = ww * rdI b 0 := IntWalk.i64_in _ (by omega)
        have x4 : (ww * rdI b 0).tmod p = mo p a b n := by rw [Int.tmod_eq_emod_of_nonneg (by omega), x2]
        have x5 : ¬ p = 0 := by omega
        have x6 : IntKind.i64.wrap ((n : Int) + 1) = (n : Int) + 1 := IntWalk.i64_in _ (by omega)
        have x7 : 0 < b.length := by omega
        have x8 : (0 : Int) < b.length := by omega
        have x9 : n < ML.length := by omega
        as_aux_lemma =>
          simp [go_sem, -map_replicate, -map_set, -map_append, -map_reverse, -map_take, -map_drop, -map_tail, -any_map, -all_map, -mapM_map, -map_map, bitvec_to_nat, hn, hni, w2, h1, x1, x3, x4, x5, x6, x7, x8, x9, lM]
          repeat refine ⟨by kernel_rfl, by kernel_rfl, ?_⟩
          refine next _ rfl ?_
          (refine canon_mk ?_; simp [method_specs_simp, ordIds_app, ordRen_app, ordIds_app2, ordRen_app2, -map_replicate, -map_set, -map_append, -map_reverse, -map_take, -map_drop, -map_tail, -map_map])
      · have hno : ¬ 2 * (a.length : Int) < 2 * (a.length : Int) := by omega
        by_cases z2 : (turns p2 a2 b2 n2).2 = 0
        · obtain ⟨u4, u5, u6, u7⟩ := u9 z2
          rw [z2] at u1 u2
          by_cases z3 : (psum p3 a3 b3 m3 i3 k3).2 = 0
          · rw [z3] at v1 v2
            obtain ⟨j3, v3⟩ := v9 z3
            by_cases m5 : m3 ≤ 5
            · by_cases z4 : (pathsR m3 i3 k3 ((a3.length : Int) - 1)).2 = 0
              · have v4' := v4
                rw [z4] at v4'
                have tot := path_total j3 z3 z4
                have v5' := v5 j3 v3
                have tr := twS_range (jacB_prime j3) (fun s => (wtR p3 a3 b3 s i3).1) (pathsR m3 i3 k3 ((a3.length : Int) - 1)).1
                have pp := jacB_prime j3
                have v6' := v6
                generalize (pathsR m3 i3 k3 ((a3.length : Int) - 1)).1 = ps at *
                have lps : (ps.map V.str).length = ps.length := List.length_map _
                simp [go_sem, -map_replicate, -map_set, -map_append, -map_reverse, -map_take, -map_drop, -map_tail, -any_map, -all_map, -mapM_map, -map_map, bitvec_to_nat, slStrD, ldStrD, undStrSD, w2, hno, d2, u1, u2, u3, u4, u5, u6, u7, d3, v1, v2, v4', m5, g3, g4]
                repeat refine ⟨by kernel_rfl, by kernel_rfl, ?_⟩
                rw [WL_loop]
                refine WL_for (keep := [31, 33, 35, 39, 41, 42]) (rs := resM Try.f6) rfl (by kernel_rfl) (fun x => mkSt [(31, .ptr 0 0 0), (33, .int .i64 i3), (35, .int .i64 (psum p3 a3 b3 m3 i3 k3).1), (39, .sl 1 0 0 ps.length), (41, .int .i64 (twS p3 (fun s => (wtR p3 a3 b3 s i3).1) ps x)), (42, .int .i64 (x : Int))] [some (⟨0, 1, 1, [.int .i64 p3, (V.list (List.length (a3)) (List.map (V.int .i64) (a3))), (V.list (List.length (b3)) (List.map (V.int .i64) (b3)))]⟩), some (⟨0, 2, 1, ps.map V.str⟩)] (resM Try.f6)) ps.length ?_ ?_ 0 _ (by omega) rfl ?_
                · intro x hx next
                  have xi : (x : Int) < ps.length := by omega
                  have wx := v5' ps[x] (List.getElem_mem hx)
                  have wr : runv E1 49 [(V.agg [V.int .i64 (p3), (V.list (List.length (a3)) (List.map (V.int .i64) (a3))), (V.list (List.length (b3)) (List.map (V.int .i64) (b3)))]), .str ps[x], .int .i64 i3] = some ⟨true, .tup [.int .i64 (wtR p3 a3 b3 ps[x] i3).1, .int .i64 0], [.agg [.undef, .undef, .undef], .undef, .undef]⟩ := wx.1
                  have e1 : twS p3 (fun s => (wtR p3 a3 b3 s i3).1) ps (x + 1) = (twS p3 (fun s => (wtR p3 a3 b3 s i3).1) ps x + (wtR p3 a3 b3 ps[x] i3).1) % p3 := by
                    rw [twS, List.getD_eq_getElem?_getD, List.getElem?_eq_getElem hx, Option.getD_some]
                  rw [e1] at next
                  have t1 := tr x
                  have t2 := wx.2
                  generalize twS p3 (fun s => (wtR p3 a3 b3 s i3).1) ps x = tx at *
                  generalize (wtR p3 a3 b3 ps[x] i3).1 = wv at *
                  have q1 : IntKind.i64.wrap (tx + wv) = tx + wv := IntWalk.i64_in _ (by omega)
                  have q2 : (tx + wv).tmod p3 = (tx + wv) % p3 := Int.tmod_eq_emod_of_nonneg (by omega)
                  have q3 : ¬ p3 = 0 := by omega
                  have q4 : IntKind.i64.wrap ((x : Int) + 1) = (x : Int) + 1 := IntWalk.i64_in _ (by omega)
                  simp [go_sem, -map_replicate, -map_set, -map_append, -map_reverse, -map_take, -map_drop, -map_tail, -any_map, -all_map, -mapM_map, -map_map, bitvec_to_nat, slStrD, ldStrD, undStrSD, hx, xi, wr, q1, q2, q3, q4]
                  repeat refine ⟨by kernel_rfl, by kernel_rfl, ?_⟩
                  refine next _ rfl ?_
                  (refine canon_mk ?_; simp [method_specs_simp, ordIds_app, ordRen_app, ordIds_app2, ordRen_app2, -map_replicate, -map_set, -map_append, -map_reverse, -map_take, -map_drop, -map_tail, -map_map, ordIds_str, ordRen_str])
                · rw [tot]
                  simp [go_sem, -map_replicate, -map_set, -map_append, -map_reverse, -map_take, -map_drop, -map_tail, -any_map, -all_map, -mapM_map, -map_map, bitvec_to_nat, slStrD, ldStrD, undStrSD]
                  simp [mvcgen_simp, -map_replicate, -map_set, -map_append, -map_reverse, -map_take, -map_drop, -map_tail, -any_map, -all_map, -mapM_map, -map_map, Try.f6, szL, ldL, setCs0, setCs1, setCs2, setCsA2, setCsA3, ldM, fM0, fM1, szM, zM, plM0, plM1, agM, paM, ldJ, fJ0, fJ1, fJ2, szJ, zJ, plJ0, plJ1, plJ2, agJ, paJ, loadD, viewN]
                · (refine canon_mk ?_; simp [method_specs_simp, ordIds_app, ordRen_app, ordIds_app2, ordRen_app2, -map_replicate, -map_set, -map_append, -map_reverse, -map_take, -map_drop, -map_tail, -map_map, ordIds_str, ordRen_str, twS])
              · have v4' := v4
                as_aux_lemma =>
                  simp [go_sem, -map_replicate, -map_set, -map_append, -map_reverse, -map_take, -map_drop, -map_tail, -any_map, -all_map, -mapM_map, -map_map, bitvec_to_nat, w2, hno, d2, u1, u2, u3, u4, u5, u6, u7, d3, v1, v2, v4', m5, z4, g3, g4, slStrD, ldStrD, undStrSD]
                  repeat refine ⟨by kernel_rfl, by kernel_rfl, ?_⟩
                  simp [mvcgen_simp, -map_replicate, -map_set, -map_append, -map_reverse, -map_take, -map_drop, -map_tail, -any_map, -all_map, -mapM_map, -map_map, Try.f6, szL, ldL, setCs0, setCs1, setCs2, setCsA2, setCsA3, ldM, fM0, fM1, szM, zM, plM0, plM1, agM, paM, ldJ, fJ0, fJ1, fJ2, szJ, zJ, plJ0, plJ1, plJ2, agJ, paJ, loadD, viewN]
            ·
              as_aux_lemma =>
                simp [go_sem, -map_replicate, -map_set, -map_append, -map_reverse, -map_take, -map_drop, -map_tail, -any_map, -all_map, -mapM_map, -map_map, bitvec_to_nat, w2, hno, d2, u1, u2, u3, u4, u5, u6, u7, d3, v1, v2, m5]
                repeat refine ⟨by kernel_rfl, by kernel_rfl, ?_⟩
                simp [mvcgen_simp, -map_replicate, -map_set, -map_append, -map_reverse, -map_take, -map_drop, -map_tail, -any_map, -all_map, -mapM_map, -map_map, Try.f6, szL, ldL, setCs0, setCs1, setCs2, setCsA2, setCsA3, ldM, fM0, fM1, szM, zM, plM0, plM1, agM, paM, ldJ, fJ0, fJ1, fJ2, szJ, zJ, plJ0, plJ1, plJ2, agJ, paJ, loadD, viewN]
          ·
            as_aux_lemma =>
              simp [go_sem, -map_replicate, -map_set, -map_append, -map_reverse, -map_take, -map_drop, -map_tail, -any_map, -all_map, -mapM_map, -map_map, bitvec_to_nat, w2, hno, d2, u1, u2, u3, u4, u5, u6, u7, d3, v1, v2, z3]
              repeat refine ⟨by kernel_rfl, by kernel_rfl, ?_⟩
              simp [mvcgen_simp, -map_replicate, -map_set, -map_append, -map_reverse, -map_take, -map_drop, -map_tail, -any_map, -all_map, -mapM_map, -map_map, Try.f6, szL, ldL, setCs0, setCs1, setCs2, setCsA2, setCsA3, ldM, fM0, fM1, szM, zM, plM0, plM1, agM, paM, ldJ, fJ0, fJ1, fJ2, szJ, zJ, plJ0, plJ1, plJ2, agJ, paJ, loadD, viewN]
        ·
          by_cases z3 : (psum p3 a3 b3 m3 i3 k3).2 = 0
          · rw [z3] at v1 v2
            obtain ⟨j3, v3⟩ := v9 z3
            by_cases m5 : m3 ≤ 5
            · by_cases z4 : (pathsR m3 i3 k3 ((a3.length : Int) - 1)).2 = 0
              · have v4' := v4
                rw [z4] at v4'
                have tot := path_total j3 z3 z4
                have v5' := v5 j3 v3
                have tr := twS_range (jacB_prime j3) (fun s => (wtR p3 a3 b3 s i3).1) (pathsR m3 i3 k3 ((a3.length : Int) - 1)).1
                have pp := jacB_prime j3
                have v6' := v6
                generalize (pathsR m3 i3 k3 ((a3.length : Int) - 1)).1 = ps at *
                have lps : (ps.map V.str).length = ps.length := List.length_map _
                simp [go_sem, -map_replicate, -map_set, -map_append, -map_reverse, -map_take, -map_drop, -map_tail, -any_map, -all_map, -mapM_map, -map_map, bitvec_to_nat, slStrD, ldStrD, undStrSD, w2, hno, d2, u1, u2, u3, z2, d3, v1, v2, v4', m5, g3, g4]
                repeat refine ⟨by kernel_rfl, by kernel_rfl, ?_⟩
                rw [WL_loop]
                refine WL_for (keep := [31, 33, 35, 39, 41, 42]) (rs := resM Try.f6) rfl (by kernel_rfl) (fun x => mkSt [(31, .ptr 0 0 0), (33, .int .i64 i3), (35, .int .i64 (psum p3 a3 b3 m3 i3 k3).1), (39, .sl 1 0 0 ps.length), (41, .int .i64 (twS p3 (fun s => (wtR p3 a3 b3 s i3).1) ps x)), (42, .int .i64 (x : Int))] [some (⟨0, 1, 1, [.int .i64 p3, (V.list (List.length (a3)) (List.map (V.int .i64) (a3))), (V.list (List.length (b3)) (List.map (V.int .i64) (b3)))]⟩), some (⟨0, 2, 1, ps.map V.str⟩)] (resM Try.f6)) ps.length ?_ ?_ 0 _ (by omega) rfl ?_
                · intro x hx next
                  have xi : (x : Int) < ps.length := by omega
                  have wx := v5' ps[x] (List.getElem_mem hx)
                  have wr : runv E1 49 [(V.agg [V.int .i64 (p3), (V.list (List.length (a3)) (List.map (V.int .i64) (a3))), (V.list (List.length (b3)) (List.map (V.int .i64) (b3)))]), .str ps[x], .int .i64 i3] = some ⟨true, .tup [.int .i64 (wtR p3 a3 b3 ps[x] i3).1, .int .i64 0], [.agg [.undef, .undef, .undef], .undef, .undef]⟩ := wx.1
                  have e1 : twS p3 (fun s => (wtR p3 a3 b3 s i3).1) ps (x + 1) = (twS p3 (fun s => (wtR p3 a3 b3 s i3).1) ps x + (wtR p3 a3 b3 ps[x] i3).1) % p3 := by
                    rw [twS, List.getD_eq_getElem?_getD, List.getElem?_eq_getElem hx, Option.getD_some]
                  rw [e1] at next
                  have t1 := tr x
                  have t2 := wx.2
                  generalize twS p3 (fun s => (wtR p3 a3 b3 s i3).1) ps x = tx at *
                  generalize (wtR p3 a3 b3 ps[x] i3).1 = wv at *
                  have q1 : IntKind.i64.wrap (tx + wv) = tx + wv := IntWalk.i64_in _ (by omega)
                  have q2 : (tx + wv).tmod p3 = (tx + wv) % p3 := Int.tmod_eq_emod_of_nonneg (by omega)
                  have q3 : ¬ p3 = 0 := by omega
                  have q4 : IntKind.i64.wrap ((x : Int) + 1) = (x : Int) + 1 := IntWalk.i64_in _ (by omega)
                  simp [go_sem, -map_replicate, -map_set, -map_append, -map_reverse, -map_take, -map_drop, -map_tail, -any_map, -all_map, -mapM_map, -map_map, bitvec_to_nat, slStrD, ldStrD, undStrSD, hx, xi, wr, q1, q2, q3, q4]
                  repeat refine ⟨by kernel_rfl, by kernel_rfl, ?_⟩
                  refine next _ rfl ?_
                  (refine canon_mk ?_; simp [method_specs_simp, ordIds_app, ordRen_app, ordIds_app2, ordRen_app2, -map_replicate, -map_set, -map_append, -map_reverse, -map_take, -map_drop, -map_tail, -map_map, ordIds_str, ordRen_str])
                · rw [tot]
                  simp [go_sem, -map_replicate, -map_set, -map_append, -map_reverse, -map_take, -map_drop, -map_tail, -any_map, -all_map, -mapM_map, -map_map, bitvec_to_nat, slStrD, ldStrD, undStrSD]
                  simp [mvcgen_simp, -map_replicate, -map_set, -map_append, -map_reverse, -map_take, -map_drop, -map_tail, -any_map, -all_map, -mapM_map, -map_map, Try.f6, szL, ldL, setCs0, setCs1, setCs2, setCsA2, setCsA3, ldM, fM0, fM1, szM, zM, plM0, plM1, agM, paM, ldJ, fJ0, fJ1, fJ2, szJ, zJ, plJ0, plJ1, plJ2, agJ, paJ, loadD, viewN]
                · (refine canon_mk ?_; simp [method_specs_simp, ordIds_app, ordRen_app, ordIds_app2, ordRen_app2, -map_replicate, -map_set, -map_append, -map_reverse, -map_take, -map_drop, -map_tail, -map_map, ordIds_str, ordRen_str, twS])
              · have v4' := v4
                as_aux_lemma =>
                  simp [go_sem, -map_replicate, -map_set, -map_append, -map_reverse, -map_take, -map_drop, -map_tail, -any_map, -all_map, -mapM_map, -map_map, bitvec_to_nat, w2, hno, d2, u1, u2, u3, z2, d3, v1, v2, v4', m5, z4, g3, g4, slStrD, ldStrD, undStrSD]
                  repeat refine ⟨by kernel_rfl, by kernel_rfl, ?_⟩
                  simp [mvcgen_simp, -map_replicate, -map_set, -map_append, -map_reverse, -map_take, -map_drop, -map_tail, -any_map, -all_map, -mapM_map, -map_map, Try.f6, szL, ldL, setCs0, setCs1, setCs2, setCsA2, setCsA3, ldM, fM0, fM1, szM, zM, plM0, plM1, agM, paM, ldJ, fJ0, fJ1, fJ2, szJ, zJ, plJ0, plJ1, plJ2, agJ, paJ, loadD, viewN]
            ·
              as_aux_lemma =>
                simp [go_sem, -map_replicate, -map_set, -map_append, -map_reverse, -map_take, -map_drop, -map_tail, -any_map, -all_map, -mapM_map, -map_map, bitvec_to_nat, w2, hno, d2, u1, u2, u3, z2, d3, v1, v2, m5]
                repeat refine ⟨by kernel_rfl, by kernel_rfl, ?_⟩
                simp [mvcgen_simp, -map_replicate, -map_set, -map_append, -map_reverse, -map_take, -map_drop, -map_tail, -any_map, -all_map, -mapM_map, -map_map, Try.f6, szL, ldL, setCs0, setCs1, setCs2, setCsA2, setCsA3, ldM, fM0, fM1, szM, zM, plM0, plM1, agM, paM, ldJ, fJ0, fJ1, fJ2, szJ, zJ, plJ0, plJ1, plJ2, agJ, paJ, loadD, viewN]
          ·
            as_aux_lemma =>
              simp [go_sem, -map_replicate, -map_set, -map_append, -map_reverse, -map_take, -map_drop, -map_tail, -any_map, -all_map, -mapM_map, -map_map, bitvec_to_nat, w2, hno, d2, u1, u2, u3, z2, d3, v1, v2, z3]
              repeat refine ⟨by kernel_rfl, by kernel_rfl, ?_⟩
              simp [mvcgen_simp, -map_replicate, -map_set, -map_append, -map_reverse, -map_take, -map_drop, -map_tail, -any_map, -all_map, -mapM_map, -map_map, Try.f6, szL, ldL, setCs0, setCs1, setCs2, setCsA2, setCsA3, ldM, fM0, fM1, szM, zM, plM0, plM1, agM, paM, ldJ, fJ0, fJ1, fJ2, szJ, zJ, plJ0, plJ1, plJ2, agJ, paJ, loadD, viewN]
      · (refine canon_mk ?_; simp [method_specs_simp, ordIds_app, ordRen_app, ordIds_app2, ordRen_app2, -map_replicate, -map_set, -map_append, -map_reverse, -map_take, -map_drop, -map_tail, -map_map, lM])
    · (refine canon_mk ?_; simp [method_specs_simp, ordIds_app, ordRen_app, ordIds_app2, ordRen_app2, -map_replicate, -map_set, -map_append, -map_reverse, -map_take, -map_drop, -map_tail, -map_map, oC1, oC2, rC1, rC2])
end Go.Proofs.Ytabnganndcmcnaa.Ev
