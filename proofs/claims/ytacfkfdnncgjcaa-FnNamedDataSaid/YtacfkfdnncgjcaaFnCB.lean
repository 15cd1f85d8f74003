/- NamedMoments: the program's list. Conditions: none. -/
import Derived.Test.YtacfkfdnncgjcaaFnBY
set_option linter.unusedSimpArgs false
set_option linter.unusedVariables false
namespace Go.Proofs.Ytacfkfdnncgjcaa.Ev
open Go Go.Proofs
open List (map_replicate map_set map_append map_reverse map_take map_drop map_tail any_map all_map mapM_map map_map)
set_option maxRecDepth 4000
set_option maxHeartbeats 4000000
attribute [local bitvec_to_nat] slL szI ldI zI undL apL setI rdI_get Nat.add_one_le_iff fillV zeros1 zeros0 appendD segV lvO goneOf sliceD bound Nat.add_assoc szL ldL setCs0 setCs1 setCs2 setCsA2 setCsA3 ldM fM0 fM1 szM zM plM0 plM1 agM paM ldJ fJ0 fJ1 fJ2 szJ zJ plJ0 plJ1 plJ2 agJ paJ

theorem rdI_rev {l : List Int} {x : Nat} (h : x < l.length) : rdI l.reverse x = rdI l (l.length - 1 - x) := by
  rw [← rdI_get (by simpa using h), List.getElem_reverse, rdI_get]
theorem zerosS5 : zerosV 5 [V.str ⟨#[]⟩] = [V.str ⟨#[]⟩, V.str ⟨#[]⟩, V.str ⟨#[]⟩, V.str ⟨#[]⟩, V.str ⟨#[]⟩] := rfl
theorem run_named (s : ByteArray) (p : Int) (n : Nat) (hp : 2 ≤ p ∧ p ≤ 10007) (hn : 1 ≤ n ∧ n ≤ 24) :
    runv E1 118 [.int .i64 p, .str s, .int .i64 (n : Int)] = some ⟨true, .tup [(V.uniq 1 (List.length (nmL (mk s) p n)) (List.map (V.int .i64) (nmL (mk s) p n))), .bool (decide (¬ mk s = 0))], [.undef, .undef, .undef]⟩ := by
  have cdk : codeOk Try.f118.ntmps (Try.f118.body.getD .skip) = true := by kernel_rfl
  refine run_of_WLr (fn := Try.f118) rfl Try.func118 rfl ⟨by simp [Try.ntmps118], by simp [wideA, ints], cdk, by simp [Try.f118]⟩ rfl (by simp [rebOk, noId, adoptT, adoptA, adoptL, adoptC, depth]) ?_
  have hC := run_ContainsS s
  unfold namesV at hC
  obtain ⟨⟨e1, e2, e3, e4, e5⟩, ht⟩ := mk_spec s
  unfold mUni at e1; unfold mLag at e2; unfold mHer at e3; unfold mCat at e4; unfold mPoi at e5
  generalize mk s = t at *
  have hpn : ¬ p = 0 := by omega
  have h1 := up (run_mod p 1 hp)
  rw [Int.emod_eq_of_lt (by omega) (by omega)] at h1
  simp [go_sem, -map_replicate, -map_set, -map_append, -map_reverse, -map_take, -map_drop, -map_tail, -any_map, -all_map, -mapM_map, -map_map, bitvec_to_nat, wz1, h1]
  repeat refine ⟨by kernel_rfl, by kernel_rfl, ?_⟩
  rw [WL_loop]
  refine WL_for (keep := [0, 1, 2, 8, 9]) (rs := resM Try.f118) rfl (by kernel_rfl) (fun k => mkSt [(0, .int .i64 p), (1, .str s), (2, .int .i64 (n : Int)), (8, .sl 0 0 0 (k + 1)), (9, .int .i64 ((k : Int) + 1))] [some (⟨0, 2, 1, (nmL t p (k + 1)).map (V.int .i64)⟩)] (resM Try.f118)) (n - 1) ?_ ?_ 0 _ (by omega) rfl ?_
  · intro k hk next
    have hki : (k : Int) + 1 < n := by omega
    have w3 : IntKind.i64.wrap ((k : Int) + 1 + 1) = (k : Int) + 1 + 1 := IntWalk.i64_in _ (by omega)
    have w2 : IntKind.i64.wrap ((k : Int) + 1 - 1) = (k : Int) := by rw [IntWalk.i64_in _ (by omega)]; omega
    have w1 : IntKind.i64.wrap (k : Int) = (k : Int) := IntWalk.i64_in _ (by omega)
    have c3 : (k + 2) * 8 ≤ 140737488355328 := by omega
    have k1p : (0 : Int) < (k : Int) + 1 := by omega
    have k1q : (0 : Int) ≤ (k : Int) + 1 := by omega
    have kk : k < k + 1 := by omega
    have kki : (k : Int) < (k : Int) + 1 := by omega
    have eN : nmL t p (k + 1 + 1) = nmL t p (k + 1) ++ [ownM t p (nmL t p (k + 1)) (k + 1)] := rfl
    have lL := nmL_len t p (k + 1)
    have mL := nmL_mem hp t (k + 1)
    have rL := rd_of_mem hp mL
    have own_ : ownM t p (nmL t p (k + 1)) (k + 1) = if t = 1 then invP p (((k : Int) + 1 + 1) % p) else if t = 2 then rdI (nmL t p (k + 1)) k * ((k : Int) + 1) % p
        else if t = 3 then (if (k + 1) % 2 = 0 then rdI (nmL t p (k + 1)) (k - 1) * (k : Int) % p else 0) else if t = 4 then dotK p (nmL t p (k + 1)) (nmL t p (k + 1)).reverse (k + 1)
        else if t = 5 then dotK p (nmL t p (k + 1)) (tab (k + 1) (chP p k)) (k + 1) else 0 := by
      unfold ownM
      rw [if_neg (by omega), show ((k + 1 : Nat) : Int) = (k : Int) + 1 by omega, show k + 1 - 1 = k by omega, show k + 1 - 2 = k - 1 by omega, show (k : Int) + 1 - 1 = k by omega]
    try dsimp only at next
    simp only [Nat.add_assoc, Nat.reduceAdd, Int.natCast_add, Int.cast_ofNat_Int] at next eN
    rw [eN] at next
    have tt : t = 0 ∨ t = 1 ∨ t = 2 ∨ t = 3 ∨ t = 4 ∨ t = 5 := by omega
    rcases tt with rfl | rfl | rfl | rfl | rfl | rfl
    · rw [own_] at next
      simp only [Nat.reduceEqDiff, eq_self, reduceIte, if_false, if_true] at next
      generalize hL : nmL 0 p (k + 1) = L at *
      simp [go_sem, -map_replicate, -map_set, -map_append, -map_reverse, -map_take, -map_drop, -map_tail, -any_map, -all_map, -mapM_map, -map_map, bitvec_to_nat, undS, strOp, hk, hki, w1, w2, w3, e1, e2, e3, e4, e5, k1p, k1q, kk, kki, hpn, lL, c3, wz0, wz1]
      repeat refine ⟨by kernel_rfl, by kernel_rfl, ?_⟩
      refine next _ rfl ?_
      (refine canon_mk ?_; simp [method_specs_simp, ordIds_app, ordRen_app, ordIds_app2, ordRen_app2, -map_replicate, -map_set, -map_append, -map_reverse, -map_take, -map_drop, -map_tail, -map_map])
    · rw [own_] at next
      simp only [Nat.reduceEqDiff, eq_self, reduceIte, if_false, if_true] at next
      generalize hL : nmL 1 p (k + 1) = L at *
      have hm := up (run_mod p ((k : Int) + 1 + 1) hp)
      have hv := up (run_inverse p (((k : Int) + 1 + 1) % p) hp (mod_small hp _))
      generalize invP p (((k : Int) + 1 + 1) % p) = x at *
      generalize ((k : Int) + 1 + 1) % p = y at *
      simp [go_sem, -map_replicate, -map_set, -map_append, -map_reverse, -map_take, -map_drop, -map_tail, -any_map, -all_map, -mapM_map, -map_map, bitvec_to_nat, undS, strOp, hk, hki, w1, w2, w3, e1, e2, e3, e4, e5, k1p, k1q, kk, kki, hm, hv, hpn, lL, c3, wz0, wz1]
      repeat refine ⟨by kernel_rfl, by kernel_rfl, ?_⟩
      refine next _ rfl ?_
      (refine canon_mk ?_; simp [method_specs_simp, ordIds_app, ordRen_app, ordIds_app2, ordRen_app2, -map_replicate, -map_set, -map_append, -map_reverse, -map_take, -map_drop, -map_tail, -map_map])
    · rw [own_] at next
      simp only [Nat.reduceEqDiff, eq_self, reduceIte, if_false, if_true] at next
      have gk := rL k
      generalize hL : nmL 2 p (k + 1) = L at *
      have pm := mul_small (p := 10007) (by omega) (show 0 ≤ rdI L k ∧ rdI L k < 10007 by omega) (show 0 ≤ (k : Int) + 1 ∧ (k : Int) + 1 < 10007 by omega)
      have hm := up (run_mul p (rdI L k) ((k : Int) + 1) hp (IntWalk.i64_in _ (by omega)))
      simp [go_sem, -map_replicate, -map_set, -map_append, -map_reverse, -map_take, -map_drop, -map_tail, -any_map, -all_map, -mapM_map, -map_map, bitvec_to_nat, undS, strOp, hk, hki, w1, w2, w3, e1, e2, e3, e4, e5, k1p, k1q, kk, kki, hm, hpn, lL, c3, wz0, wz1]
      repeat refine ⟨by kernel_rfl, by kernel_rfl, ?_⟩
      refine next _ rfl ?_
      (refine canon_mk ?_; simp [method_specs_simp, ordIds_app, ordRen_app, ordIds_app2, ordRen_app2, -map_replicate, -map_set, -map_append, -map_reverse, -map_take, -map_drop, -map_tail, -map_map])
    · rw [own_] at next
      simp only [Nat.reduceEqDiff, eq_self, reduceIte, if_false, if_true] at next
      have gk := rL (k - 1)
      generalize hL : nmL 3 p (k + 1) = L at *
      by_cases q : (k + 1) % 2 = 0
      · rw [if_pos q] at next
        have q2 : Int.tmod ((k : Int) + 1) 2 = 0 := by rw [Int.tmod_eq_emod_of_nonneg (by omega)]; omega
        have pm := mul_small (p := 10007) (by omega) (show 0 ≤ rdI L (k - 1) ∧ rdI L (k - 1) < 10007 by omega) (show 0 ≤ (k : Int) ∧ (k : Int) < 10007 by omega)
        have hm := up (run_mul p (rdI L (k - 1)) (k : Int) hp (IntWalk.i64_in _ (by omega)))
        have w4 : IntKind.i64.wrap ((k : Int) + 1 - 2) = ((k - 1 : Nat) : Int) := by rw [IntWalk.i64_in _ (by omega)]; omega
        have km : k - 1 < k + 1 := by omega
        have kmi : ((k - 1 : Nat) : Int) < (k : Int) + 1 := by omega
        have kml : k - 1 < L.length := by omega
        have kl : k ≤ k + 1 := by omega
        simp [go_sem, -map_replicate, -map_set, -map_append, -map_reverse, -map_take, -map_drop, -map_tail, -any_map, -all_map, -mapM_map, -map_map, bitvec_to_nat, undS, strOp, hk, hki, w1, w2, w3, w4, e1, e2, e3, e4, e5, k1p, k1q, km, kmi, kml, kk, kki, q2, hm, hpn, lL, c3, wz0, wz1]
        repeat refine ⟨by kernel_rfl, by kernel_rfl, ?_⟩
        refine next _ rfl ?_
        (refine canon_mk ?_; simp [method_specs_simp, ordIds_app, ordRen_app, ordIds_app2, ordRen_app2, -map_replicate, -map_set, -map_append, -map_reverse, -map_take, -map_drop, -map_tail, -map_map])
      · rw [if_neg q] at next
        have q2 : Int.tmod ((k : Int) + 1) 2 = 1 := by rw [Int.tmod_eq_emod_of_nonneg (by omega)]; omega
        simp [go_sem, -map_replicate, -map_set, -map_append, -map_reverse, -map_take, -map_drop, -map_tail, -any_map, -all_map, -mapM_map, -map_map, bitvec_to_nat, undS, strOp, hk, hki, w1, w2, w3, e1, e2, e3, e4, e5, k1p, k1q, kk, kki, q2, hpn, lL, c3, wz0, wz1]
        repeat refine ⟨by kernel_rfl, by kernel_rfl, ?_⟩
        refine next _ rfl ?_
        (refine canon_mk ?_; simp [method_specs_simp, ordIds_app, ordRen_app, ordIds_app2, ordRen_app2, -map_replicate, -map_set, -map_append, -map_reverse, -map_take, -map_drop, -map_tail, -map_map])
    · rw [own_] at next
      simp only [Nat.reduceEqDiff, eq_self, reduceIte, if_false, if_true] at next
      generalize hL : nmL 4 p (k + 1) = L at *
      simp [go_sem, -map_replicate, -map_set, -map_append, -map_reverse, -map_take, -map_drop, -map_tail, -any_map, -all_map, -mapM_map, -map_map, bitvec_to_nat, undS, strOp, hk, hki, w1, w2, w3, e1, e2, e3, e4, e5, k1p, k1q, kk, kki, hpn, lL, wz0, wz1]
      repeat refine ⟨by kernel_rfl, by kernel_rfl, ?_⟩
      rw [WL_loop]
      refine WL_for (keep := [0, 1, 2, 8, 9, 10, 57, 58]) (rs := resM Try.f118) rfl (by kernel_rfl) (fun x => mkSt [(0, .int .i64 p), (1, .str s), (2, .int .i64 (n : Int)), (8, .sl 0 0 0 (k + 1)), (9, .int .i64 ((k : Int) + 1)), (10, .int .i64 (dotK p L L.reverse x)), (57, .int .i64 ((k : Int) + 1)), (58, .int .i64 (x : Int))] [some (⟨0, 2, 1, L.map (V.int .i64)⟩)] (resM Try.f118)) (k + 1) ?_ ?_ 0 _ (by omega) rfl ?_
      · intro x hx next'
        have gx := rL x
        have gy := rL (k - x)
        have er : rdI L.reverse x = rdI L (k - x) := by rw [rdI_rev (by omega), show L.length - 1 - x = k - x by omega]
        have pm := mul_small hp gx gy
        have r0 := dotK_range hp L L.reverse x
        have u1 : IntKind.i64.wrap (rdI L x * rdI L (k - x)) = rdI L x * rdI L (k - x) := IntWalk.i64_in _ (by omega)
        have u2 : IntKind.i64.wrap (dotK p L L.reverse x + rdI L x * rdI L (k - x)) = dotK p L L.reverse x + rdI L x * rdI L (k - x) := IntWalk.i64_in _ (by omega)
        have hm := up (run_mod p (dotK p L L.reverse x + rdI L x * rdI L (k - x)) hp)
        have eD : (dotK p L L.reverse x + rdI L x * rdI L (k - x)) % p = dotK p L L.reverse (x + 1) := by rw [dotK, er]
        rw [eD] at hm
        have w5 : IntKind.i64.wrap ((k : Int) - x) = ((k - x : Nat) : Int) := by rw [IntWalk.i64_in _ (by omega)]; omega
        have w6 : IntKind.i64.wrap ((x : Int) + 1) = (x : Int) + 1 := IntWalk.i64_in _ (by omega)
        have xi : (x : Int) < (k : Int) + 1 := by omega
        have kx : k - x < k + 1 := by omega
        have kxi : ((k - x : Nat) : Int) < (k : Int) + 1 := by omega
        have xl : x < L.length := by omega
        have kxl : k - x < L.length := by omega
        have kx2 : k ≤ k + x := by omega
        have kx3 : k < k + 1 + x := by omega
        generalize dotK p L L.reverse (x + 1) = d1 at *
        generalize dotK p L L.reverse x = d0 at *
        simp [go_sem, -map_replicate, -map_set, -map_append, -map_reverse, -map_take, -map_drop, -map_tail, -any_map, -all_map, -mapM_map, -map_map, bitvec_to_nat, hx, xi, kx, kxi, xl, kxl, kx2, kx3, u1, u2, hm, w1, w2, w5, w6, hpn, lL]
        repeat refine ⟨by kernel_rfl, by kernel_rfl, ?_⟩
        refine next' _ rfl ?_
        (refine canon_mk ?_; simp [method_specs_simp, ordIds_app, ordRen_app, ordIds_app2, ordRen_app2, -map_replicate, -map_set, -map_append, -map_reverse, -map_take, -map_drop, -map_tail, -map_map])
      · generalize dotK p L L.reverse (k + 1) = d1 at *
        simp only [Int.natCast_add, Int.cast_ofNat_Int]
        simp [go_sem, -map_replicate, -map_set, -map_append, -map_reverse, -map_take, -map_drop, -map_tail, -any_map, -all_map, -mapM_map, -map_map, bitvec_to_nat, w3, lL, c3]
        repeat refine ⟨by kernel_rfl, by kernel_rfl, ?_⟩
        refine next _ rfl ?_
        (refine canon_mk ?_; simp [method_specs_simp, ordIds_app, ordRen_app, ordIds_app2, ordRen_app2, -map_replicate, -map_set, -map_append, -map_reverse, -map_take, -map_drop, -map_tail, -map_map])
      · (refine canon_mk ?_; simp [method_specs_simp, ordIds_app, ordRen_app, ordIds_app2, ordRen_app2, -map_replicate, -map_set, -map_append, -map_reverse, -map_take, -map_drop, -map_tail, -map_map, dotK])
    · rw [own_] at next
      simp only [Nat.reduceEqDiff, eq_self, reduceIte, if_false, if_true] at next
      generalize hL : nmL 5 p (k + 1) = L at *
      have hR : ∀ x, x < k + 1 → rdI (tab (k + 1) (chP p k)) x = chP p k x := fun x hx => tab_rd hx
      generalize tab (k + 1) (chP p k) = R at *
      simp [go_sem, -map_replicate, -map_set, -map_append, -map_reverse, -map_take, -map_drop, -map_tail, -any_map, -all_map, -mapM_map, -map_map, bitvec_to_nat, undS, strOp, hk, hki, w1, w2, w3, e1, e2, e3, e4, e5, k1p, k1q, kk, kki, hpn, lL, wz0, wz1]
      repeat refine ⟨by kernel_rfl, by kernel_rfl, ?_⟩
      rw [WL_loop]
      refine WL_for (keep := [0, 1, 2, 8, 9, 10, 12, 80, 81]) (rs := resM Try.f118) rfl (by kernel_rfl) (fun x => mkSt [(0, .int .i64 p), (1, .str s), (2, .int .i64 (n : Int)), (8, .sl 0 0 0 (k + 1)), (9, .int .i64 ((k : Int) + 1)), (10, .int .i64 (dotK p L R x)), (12, .int .i64 (chs k x : Int)), (80, .int .i64 ((k : Int) + 1)), (81, .int .i64 (x : Int))] [some (⟨0, 2, 1, L.map (V.int .i64)⟩)] (resM Try.f118)) (k + 1) ?_ ?_ 0 _ (by omega) rfl ?_
      · intro x hx next'
        have gx := rL x
        have er := hR x hx
        have pc := mod_small hp (chs k x : Int)
        have ec : (chs k x : Int) % p = chP p k x := rfl
        rw [ec] at pc
        have pm := mul_small hp pc gx
        have r0 := dotK_range hp L R x
        have hc1 := up (run_mod p (chs k x : Int) hp)
        rw [ec] at hc1
        have u1 : IntKind.i64.wrap (chP p k x * rdI L x) = chP p k x * rdI L x := IntWalk.i64_in _ (by omega)
        have u2 : IntKind.i64.wrap (dotK p L R x + chP p k x * rdI L x) = dotK p L R x + chP p k x * rdI L x := IntWalk.i64_in _ (by omega)
        have hm := up (run_mod p (dotK p L R x + chP p k x * rdI L x) hp)
        have eD : (dotK p L R x + chP p k x * rdI L x) % p = dotK p L R (x + 1) := by rw [dotK, er, Int.mul_comm (rdI L x)]
        rw [eD] at hm
        have w5 : IntKind.i64.wrap ((k : Int) - x) = ((k - x : Nat) : Int) := by rw [IntWalk.i64_in _ (by omega)]; omega
        have w6 : IntKind.i64.wrap ((x : Int) + 1) = (x : Int) + 1 := IntWalk.i64_in _ (by omega)
        have cb : chs k x * (k - x) ≤ 8388608 * 24 := by
          have h1 := chs_le k x
          have h2 : 2 ^ k ≤ 2 ^ 23 := Nat.pow_le_pow_right (by omega) (by omega)
          exact Nat.mul_le_mul (by omega) (by omega)
        have cn := chs_next k x
        have ca : (chs k x : Int) * ((k - x : Nat) : Int) = ((chs k x * (k - x) : Nat) : Int) := by simp
        have w7 : IntKind.i64.wrap ((chs k x : Int) * ((k - x : Nat) : Int)) = ((chs k x * (k - x) : Nat) : Int) := by rw [ca, IntWalk.i64_in _ (by omega)]
        have t7 : Int.tdiv ((chs k x * (k - x) : Nat) : Int) ((x : Int) + 1) = (chs k (x + 1) : Int) := by
          rw [← cn, Int.tdiv_eq_ediv_of_nonneg (by omega)]; rfl
        have cl : chs k (x + 1) ≤ 8388608 := by
          have h1 := chs_le k (x + 1)
          have h2 : 2 ^ k ≤ 2 ^ 23 := Nat.pow_le_pow_right (by omega) (by omega)
          omega
        have w8 : IntKind.i64.wrap (chs k (x + 1) : Int) = (chs k (x + 1) : Int) := IntWalk.i64_in _ (by omega)
        have x1z : ¬ (x : Int) + 1 = 0 := by omega
        have xi : (x : Int) < (k : Int) + 1 := by omega
        have xl : x < L.length := by omega
        clear ca cb cn
        generalize (chs k x * (k - x) : Nat) = q at *
        generalize chs k (x + 1) = c1 at *
        generalize chs k x = c0 at *
        generalize chP p k x = cc at *
        generalize dotK p L R (x + 1) = d1 at *
        generalize dotK p L R x = d0 at *
        simp [go_sem, -map_replicate, -map_set, -map_append, -map_reverse, -map_take, -map_drop, -map_tail, -any_map, -all_map, -mapM_map, -map_map, bitvec_to_nat, hx, xi, xl, u1, u2, hc1, hm, w1, w2, w5, w6, w7, t7, w8, x1z, hpn, lL]
        repeat refine ⟨by kernel_rfl, by kernel_rfl, ?_⟩
        refine next' _ rfl ?_
        (refine canon_mk ?_; simp [method_specs_simp, ordIds_app, ordRen_app, ordIds_app2, ordRen_app2, -map_replicate, -map_set, -map_append, -map_reverse, -map_take, -map_drop, -map_tail, -map_map])
      · generalize dotK p L R (k + 1) = d1 at *
        simp only [Int.natCast_add, Int.cast_ofNat_Int]
        simp [go_sem, -map_replicate, -map_set, -map_append, -map_reverse, -map_take, -map_drop, -map_tail, -any_map, -all_map, -mapM_map, -map_map, bitvec_to_nat, w3, lL, c3]
        repeat refine ⟨by kernel_rfl, by kernel_rfl, ?_⟩
        refine next _ rfl ?_
        (refine canon_mk ?_; simp [method_specs_simp, ordIds_app, ordRen_app, ordIds_app2, ordRen_app2, -map_replicate, -map_set, -map_append, -map_reverse, -map_take, -map_drop, -map_tail, -map_map])
      · (refine canon_mk ?_; simp [method_specs_simp, ordIds_app, ordRen_app, ordIds_app2, ordRen_app2, -map_replicate, -map_set, -map_append, -map_reverse, -map_take, -map_drop, -map_tail, -map_map, dotK, chs_zero])
  · have lL := nmL_len t p n
    have en : n - 1 + 1 = n := by omega
    have eni : ((n - 1 : Nat) : Int) + 1 = (n : Int) := by omega
    simp only [en, eni]
    simp [go_sem, -map_replicate, -map_set, -map_append, -map_reverse, -map_take, -map_drop, -map_tail, -any_map, -all_map, -mapM_map, -map_map, bitvec_to_nat, undS, slStr, ldStr, szStr, undStrS, zStr, zerosS5, hC]
    simp [mvcgen_simp, -map_replicate, -map_set, -map_append, -map_reverse, -map_take, -map_drop, -map_tail, -any_map, -all_map, -mapM_map, -map_map, Try.f118, lL]
  · (refine canon_mk ?_; simp [method_specs_simp, ordIds_app, ordRen_app, ordIds_app2, ordRen_app2, -map_replicate, -map_set, -map_append, -map_reverse, -map_take, -map_drop, -map_tail, -map_map, nmL, ownM])
end Go.Proofs.Ytacfkfdnncgjcaa.Ev
