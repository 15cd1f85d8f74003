/- StepBack: both texts and the law. Conditions: none. -/
import Derived.Test.YtabnganndcmcnaaFnBA
set_option linter.unusedSimpArgs false
set_option linter.unusedVariables false
namespace Go.Proofs.Ytabnganndcmcnaa.Ev
open Go Go.Proofs
open List (map_replicate map_set map_append map_reverse map_take map_drop map_tail any_map all_map mapM_map map_map)
set_option maxRecDepth 4000
set_option maxHeartbeats 4000000

/-- The numbers q and e of a step back. -/
def sbk (p c q : Int) (a b : List Int) : Nat → Int × Int
  | 0 => (q, 0)
  | k + 1 => (divP p (rdI b (k + 1)) ((rdI a k - c - (sbk p c q a b k).1) % p), (rdI a k - c - (sbk p c q a b k).1) % p)
def sbA (p c q : Int) (a b : List Int) (k : Nat) : Int := ((sbk p c q a b k).1 + (sbk p c q a b k).2 + c) % p
def sbB (p c q : Int) (a b : List Int) : Nat → Int
  | 0 => divP p (rdI b 0) q
  | k + 1 => (sbk p c q a b k).1 * (sbk p c q a b (k + 1)).2 % p
def sbOk (p c q : Int) (a b : List Int) : Bool := (List.range (a.length - 1)).all fun k => decide (¬ (sbk p c q a b (k + 1)).2 = 0)
def backJ (p : Int) (a b : List Int) (c q : Int) : Int × List Int × List Int × Int :=
  if jacB p a b then (if hasB p c && unitB p q then (if sbOk p c q a b then (p, tab a.length (sbA p c q a b), tab a.length (sbB p c q a b), 0) else (0, [], [], 5)) else (0, [], [], 2)) else (0, [], [], 1)
theorem backJ_len (p : Int) (a b : List Int) (c q : Int) (ha : a.length ≤ 1048576) (hb : b.length ≤ 1048576) : (backJ p a b c q).2.1.length ≤ 1048576 ∧ (backJ p a b c q).2.2.1.length ≤ 1048576 := by
  unfold backJ
  (repeat' split) <;> simp [tab_len] <;> omega
theorem sbk_range {p c q : Int} (hp : 2 ≤ p ∧ p ≤ 10007) (hq : 0 ≤ q ∧ q < p) (a b : List Int) : ∀ k, (0 ≤ (sbk p c q a b k).1 ∧ (sbk p c q a b k).1 < p) ∧ 0 ≤ (sbk p c q a b k).2 ∧ (sbk p c q a b k).2 < p
  | 0 => ⟨hq, by show 0 ≤ (0 : Int) ∧ (0 : Int) < p; omega⟩
  | k + 1 => ⟨divP_range hp _ _, mod_small hp _⟩
theorem run_specStepBack (p : Int) (a b : List Int) (c q : Int) (ha : a.length ≤ 1048576) (hb : b.length ≤ 1048576) :
    runv E1 30 [(V.agg [V.int .i64 (p), (V.list (List.length (a)) (List.map (V.int .i64) (a))), (V.list (List.length (b)) (List.map (V.int .i64) (b)))]), .int .i64 c, .int .i64 q] = some ⟨true, .tup [(V.agg [V.int .i64 ((backJ p a b c q).1), (V.uniq 1 (List.length ((backJ p a b c q).2.1)) (List.map (V.int .i64) ((backJ p a b c q).2.1))), (V.uniq 1 (List.length ((backJ p a b c q).2.2.1)) (List.map (V.int .i64) ((backJ p a b c q).2.2.1)))]), .int .i64 (backJ p a b c q).2.2.2], [.agg [.undef, .undef, .undef], .undef, .undef]⟩ := by
  have cdk : codeOk Try.f30.ntmps (Try.f30.body.getD .skip) = true := by kernel_rfl
  refine run_of_WLr (fn := Try.f30) rfl Try.func30 rfl ⟨by simp [Try.ntmps30], by simp [wideA, ints], cdk, by simp [Try.f30]⟩ rfl (by simp [rebOk, noId, adoptT, adoptA, adoptL, adoptC, depth]) ?_
  have h1 := up (run_l08Code1 p 0 c a b (by omega) (by omega))
  have h2 := up (run_l08Code1 p 1 q a b (by omega) (by omega))
  rw [show (decide (0 ≤ c) && decide (c < p)) = hasB p c from rfl] at h1
  rw [show (decide (1 ≤ q) && decide (q < p)) = unitB p q from rfl] at h2
  unfold jcode at h1 h2
  cases e : jacB p a b with
  | false =>
    rw [e] at h1 h2
    simp [go_sem, -map_replicate, -map_set, -map_append, -map_reverse, -map_take, -map_drop, -map_tail, -any_map, -all_map, -mapM_map, -map_map, slL, szI, ldI, zI, undL, apL, setI, rdI_get, Nat.add_one_le_iff, fillV, zeros1, zeros0, appendD, segV, lvO, goneOf, sliceD, bound, Nat.add_assoc, szL, ldL, setCs0, setCs1, setCs2, setCsA2, setCsA3, ldM, fM0, fM1, szM, zM, plM0, plM1, agM, paM, ldJ, fJ0, fJ1, fJ2, szJ, zJ, plJ0, plJ1, plJ2, agJ, paJ, h1, h2, fillV]
    repeat refine ⟨by kernel_rfl, by kernel_rfl, ?_⟩
    simp [mvcgen_simp, -map_replicate, -map_set, -map_append, -map_reverse, -map_take, -map_drop, -map_tail, -any_map, -all_map, -mapM_map, -map_map, Try.f30, backJ, e, szL, ldL, setCs0, setCs1, setCs2, setCsA2, setCsA3, ldM, fM0, fM1, szM, zM, plM0, plM1, agM, paM, ldJ, fJ0, fJ1, fJ2, szJ, zJ, plJ0, plJ1, plJ2, agJ, paJ, ctJ, loadD, viewN]
  | true =>
    rw [e] at h1 h2
    have hp := jacB_prime e
    have hl := jacB_len e
    cases e1 : hasB p c with
    | false =>
      rw [e1] at h1
      simp [go_sem, -map_replicate, -map_set, -map_append, -map_reverse, -map_take, -map_drop, -map_tail, -any_map, -all_map, -mapM_map, -map_map, slL, szI, ldI, zI, undL, apL, setI, rdI_get, Nat.add_one_le_iff, fillV, zeros1, zeros0, appendD, segV, lvO, goneOf, sliceD, bound, Nat.add_assoc, szL, ldL, setCs0, setCs1, setCs2, setCsA2, setCsA3, ldM, fM0, fM1, szM, zM, plM0, plM1, agM, paM, ldJ, fJ0, fJ1, fJ2, szJ, zJ, plJ0, plJ1, plJ2, agJ, paJ, h1, h2, fillV]
      repeat refine ⟨by kernel_rfl, by kernel_rfl, ?_⟩
      simp [mvcgen_simp, -map_replicate, -map_set, -map_append, -map_reverse, -map_take, -map_drop, -map_tail, -any_map, -all_map, -mapM_map, -map_map, Try.f30, backJ, e, e1, szL, ldL, setCs0, setCs1, setCs2, setCsA2, setCsA3, ldM, fM0, fM1, szM, zM, plM0, plM1, agM, paM, ldJ, fJ0, fJ1, fJ2, szJ, zJ, plJ0, plJ1, plJ2, agJ, paJ, ctJ, loadD, viewN]
    | true =>
      rw [e1] at h1
      cases e2 : unitB p q with
      | false =>
        rw [e2] at h2
        simp [go_sem, -map_replicate, -map_set, -map_append, -map_reverse, -map_take, -map_drop, -map_tail, -any_map, -all_map, -mapM_map, -map_map, slL, szI, ldI, zI, undL, apL, setI, rdI_get, Nat.add_one_le_iff, fillV, zeros1, zeros0, appendD, segV, lvO, goneOf, sliceD, bound, Nat.add_assoc, szL, ldL, setCs0, setCs1, setCs2, setCsA2, setCsA3, ldM, fM0, fM1, szM, zM, plM0, plM1, agM, paM, ldJ, fJ0, fJ1, fJ2, szJ, zJ, plJ0, plJ1, plJ2, agJ, paJ, h1, h2, fillV]
        repeat refine ⟨by kernel_rfl, by kernel_rfl, ?_⟩
        simp [mvcgen_simp, -map_replicate, -map_set, -map_append, -map_reverse, -map_take, -map_drop, -map_tail, -any_map, -all_map, -mapM_map, -map_map, Try.f30, backJ, e, e1, e2, szL, ldL, setCs0, setCs1, setCs2, setCsA2, setCsA3, ldM, fM0, fM1, szM, zM, plM0, plM1, agM, paM, ldJ, fJ0, fJ1, fJ2, szJ, zJ, plJ0, plJ1, plJ2, agJ, paJ, ctJ, loadD, viewN]
      | true =>
        rw [e2] at h2
        have rq := unitB_range e2
        have rc := hasB_range e1
        have b0 := jacB_b e (show 0 < a.length by omega)
        have hb0 : 0 < b.length := by omega
        have ri := invP_range hp q
        have hm := mul_small hp (show 0 ≤ rdI b 0 ∧ rdI b 0 < p by omega) ri
        have h3 := up (run_l01Inverse p q hp)
        have w1 : IntKind.i64.wrap (rdI b 0 * invP p q) = rdI b 0 * invP p q := IntWalk.i64_in _ (by omega)
        have t1 : (rdI b 0 * invP p q).tmod p = divP p (rdI b 0) q := Int.tmod_eq_emod_of_nonneg hm.1
        have hpn : ¬ p = 0 := by omega
        simp [go_sem, -map_replicate, -map_set, -map_append, -map_reverse, -map_take, -map_drop, -map_tail, -any_map, -all_map, -mapM_map, -map_map, slL, szI, ldI, zI, undL, apL, setI, rdI_get, Nat.add_one_le_iff, fillV, zeros1, zeros0, appendD, segV, lvO, goneOf, sliceD, bound, Nat.add_assoc, szL, ldL, setCs0, setCs1, setCs2, setCsA2, setCsA3, ldM, fM0, fM1, szM, zM, plM0, plM1, agM, paM, ldJ, fJ0, fJ1, fJ2, szJ, zJ, plJ0, plJ1, plJ2, agJ, paJ, h1, h2, h3, hb0, w1, t1, hpn, fillV]
        repeat refine ⟨by kernel_rfl, by kernel_rfl, ?_⟩
        rw [WL_loop]
        refine WL_forP (keep := [1, 2, 3, 6, 9, 10, 11, 12, 13]) (rs := resM Try.f30) rfl (by kernel_rfl) (fun x => match x with | 0 => mkSt [(1, .int .i64 c), (2, .int .i64 q), (3, .ptr 0 0 0), (6, .ptr 1 0 0), (9, .int .i64 p), (10, .int .i64 (a.length : Int)), (11, .ptr 2 0 0), (12, .int .i64 0), (13, .int .i64 0)] [some (⟨0, 1, 1, [.int .i64 p, (V.list (List.length (a)) (List.map (V.int .i64) (a))), (V.list (List.length (b)) (List.map (V.int .i64) (b)))]⟩), some (⟨0, 1, 1, [.int .i64 0, .nils, .nils]⟩), some (⟨0, 1, 1, [.int .i64 p, .nils, .sl 3 0 0 1]⟩), some (⟨0, 2, 1, (tab 1 (sbB p c q a b)).map (V.int .i64)⟩)] (resM Try.f30) | k + 1 => mkSt [(1, .int .i64 c), (2, .int .i64 (sbk p c q a b (k + 1)).1), (3, .ptr 0 0 0), (6, .ptr 1 0 0), (9, .int .i64 p), (10, .int .i64 (a.length : Int)), (11, .ptr 2 0 0), (12, .int .i64 (sbk p c q a b (k + 1)).2), (13, .int .i64 (k + 1 : Nat))] [some (⟨0, 1, 1, [.int .i64 p, (V.list (List.length (a)) (List.map (V.int .i64) (a))), (V.list (List.length (b)) (List.map (V.int .i64) (b)))]⟩), some (⟨0, 1, 1, [.int .i64 0, .nils, .nils]⟩), some (⟨0, 1, 1, [.int .i64 p, .sl 3 0 0 (k + 1), .sl 4 0 0 (k + 2)]⟩), some (⟨0, 2, 1, (tab (k + 1) (sbA p c q a b)).map (V.int .i64)⟩), some (⟨0, 2, 1, (tab (k + 2) (sbB p c q a b)).map (V.int .i64)⟩)] (resM Try.f30)) (a.length - 1) (fun k => ∀ j, j < k → ¬ (sbk p c q a b (j + 1)).2 = 0) ?_ ?_ 0 _ (by omega) (by omega) rfl ?_
        · intro k hk hP next
          rcases k with _ | k
          · dsimp only at next ⊢
            obtain ⟨r1, r2⟩ := sbk_range (c := c) hp (show 0 ≤ q ∧ q < p by omega) a b 0
            have ra := jacB_a e (show 0 < a.length by omega)
            have rb := jacB_b e (show 1 < a.length by omega)
            have ka : 0 < a.length := by omega
            have kb : 1 < b.length := by omega
            have kai : (0 : Int) < (a.length : Int) := by omega
            have kbi : (1 : Int) < (b.length : Int) := by omega
            have kp : (0 : Int) ≤ (0 : Int) := by omega
            have kq : (0 : Int) ≤ (1 : Int) := by omega
            have kne : ¬ (1 : Int) = (a.length : Int) := by omega
            have kt : ((1 : Int)).toNat = 1 := by omega
            have eA : (sbk p c q a b 1).2 = (rdI a 0 - c - (sbk p c q a b 0).1) % p := rfl
            have eQ : (sbk p c q a b 1).1 = divP p (rdI b 1) (sbk p c q a b 1).2 := rfl
            have m1 := mod_small hp (rdI a 0 - c - (sbk p c q a b 0).1)
            have i1 := invP_range hp (sbk p c q a b 1).2
            have d1 := divP_range hp (rdI b 1) (sbk p c q a b 1).2
            rw [← eA] at m1
            have pm := mul_small hp r1 m1
            have pd := mul_small hp (show 0 ≤ rdI b 1 ∧ rdI b 1 < p by omega) i1
            have tA : tab 1 (sbA p c q a b) = tab 0 (sbA p c q a b) ++ [sbA p c q a b 0] := tab_succ _ _
            have tB : tab 2 (sbB p c q a b) = tab 1 (sbB p c q a b) ++ [sbB p c q a b 1] := tab_succ _ _
            have lA := tab_len 0 (sbA p c q a b)
            have lB := tab_len 1 (sbB p c q a b)
            have vA : ((sbk p c q a b 0).1 + (sbk p c q a b 0).2 + c).tmod p = sbA p c q a b 0 := by unfold sbA; exact Int.tmod_eq_emod_of_nonneg (by omega)
            have vB : ((sbk p c q a b 0).1 * (sbk p c q a b 1).2).tmod p = sbB p c q a b 1 := Int.tmod_eq_emod_of_nonneg pm.1
            have vQ : (rdI b 1 * invP p (sbk p c q a b 1).2).tmod p = (sbk p c q a b 1).1 := Int.tmod_eq_emod_of_nonneg pd.1
            have h4 := up (run_l01Mod p (rdI a 0 - c - (sbk p c q a b 0).1) hp)
            rw [← eA] at h4
            have h5 := up (run_l01Inverse p (sbk p c q a b 1).2 hp)
            have w2 : IntKind.i64.wrap ((sbk p c q a b 0).1 + (sbk p c q a b 0).2) = (sbk p c q a b 0).1 + (sbk p c q a b 0).2 := IntWalk.i64_in _ (by omega)
            have w3 : IntKind.i64.wrap ((sbk p c q a b 0).1 + (sbk p c q a b 0).2 + c) = (sbk p c q a b 0).1 + (sbk p c q a b 0).2 + c := IntWalk.i64_in _ (by omega)
            have w4 : IntKind.i64.wrap ((1 : Int)) = (1 : Int) := IntWalk.i64_in _ (by omega)
            have w5 : IntKind.i64.wrap (rdI a 0 - c) = rdI a 0 - c := IntWalk.i64_in _ (by omega)
            have w6 : IntKind.i64.wrap (rdI a 0 - c - (sbk p c q a b 0).1) = rdI a 0 - c - (sbk p c q a b 0).1 := IntWalk.i64_in _ (by omega)
            have w7 : IntKind.i64.wrap ((sbk p c q a b 0).1 * (sbk p c q a b 1).2) = (sbk p c q a b 0).1 * (sbk p c q a b 1).2 := IntWalk.i64_in _ (by omega)
            have w8 : IntKind.i64.wrap (rdI b 1 * invP p (sbk p c q a b 1).2) = rdI b 1 * invP p (sbk p c q a b 1).2 := IntWalk.i64_in _ (by omega)
            have c3 : 1 * 8 ≤ 140737488355328 := by omega
            have c4 : 2 * 8 ≤ 140737488355328 := by omega
            generalize hA : tab 0 (sbA p c q a b) = TA at *
            obtain rfl : TA = [] := hA.symm
            generalize hB : tab 1 (sbB p c q a b) = TB at *
            generalize hvA : sbA p c q a b 0 = xA at *
            generalize hvB : sbB p c q a b 1 = xB at *
            generalize hQ1 : (sbk p c q a b 1).1 = Q1 at *
            generalize hE1 : (sbk p c q a b 1).2 = E1' at *
            try simp only [show (sbk p c q a b 0).1 = q from rfl, show (sbk p c q a b 0).2 = 0 from rfl, Int.add_zero, Int.zero_add] at w2 w3 w4 w5 w6 w7 w8 vA vB vQ h4 h5
            by_cases hz : E1' = 0
            · have hps : backJ p a b c q = (0, [], [], 5) := by
                have : sbOk p c q a b = false := by
                  unfold sbOk; rw [List.all_eq_false]
                  exact ⟨0, by simp; omega, by rw [hE1]; simp [hz]⟩
                simp only [backJ, e, e1, e2, this]; rfl
              subst hz
              simp [go_sem, -map_replicate, -map_set, -map_append, -map_reverse, -map_take, -map_drop, -map_tail, -any_map, -all_map, -mapM_map, -map_map, slL, szI, ldI, zI, undL, apL, setI, rdI_get, Nat.add_one_le_iff, fillV, zeros1, zeros0, appendD, segV, lvO, goneOf, sliceD, bound, Nat.add_assoc, szL, ldL, setCs0, setCs1, setCs2, setCsA2, setCsA3, ldM, fM0, fM1, szM, zM, plM0, plM1, agM, paM, ldJ, fJ0, fJ1, fJ2, szJ, zJ, plJ0, plJ1, plJ2, agJ, paJ, ka, kb, kai, kbi, kp, kq, kne, kt, lA, lB, vA, vB, vQ, h4, h5, w2, w3, w4, w5, w6, w7, w8, c3, c4, hpn, fillV]
              repeat refine ⟨by kernel_rfl, by kernel_rfl, ?_⟩
              simp [mvcgen_simp, -map_replicate, -map_set, -map_append, -map_reverse, -map_take, -map_drop, -map_tail, -any_map, -all_map, -mapM_map, -map_map, Try.f30, hps, szL, ldL, setCs0, setCs1, setCs2, setCsA2, setCsA3, ldM, fM0, fM1, szM, zM, plM0, plM1, agM, paM, ldJ, fJ0, fJ1, fJ2, szJ, zJ, plJ0, plJ1, plJ2, agJ, paJ, ctJ, loadD, viewN]
            · simp [go_sem, -map_replicate, -map_set, -map_append, -map_reverse, -map_take, -map_drop, -map_tail, -any_map, -all_map, -mapM_map, -map_map, slL, szI, ldI, zI, undL, apL, setI, rdI_get, Nat.add_one_le_iff, fillV, zeros1, zeros0, appendD, segV, lvO, goneOf, sliceD, bound, Nat.add_assoc, szL, ldL, setCs0, setCs1, setCs2, setCsA2, setCsA3, ldM, fM0, fM1, szM, zM, plM0, plM1, agM, paM, ldJ, fJ0, fJ1, fJ2, szJ, zJ, plJ0, plJ1, plJ2, agJ, paJ, ka, kb, kai, kbi, kp, kq, kne, kt, lA, lB, vA, vB, vQ, h4, h5, w2, w3, w4, w5, w6, w7, w8, c3, c4, hpn, hz, fillV]
              repeat refine ⟨by kernel_rfl, by kernel_rfl, ?_⟩
              refine next _ (fun j hj => ?_) rfl ?_
              · by_cases hj' : j = 0
                · subst hj'; rw [hE1]; exact hz
                · exact hP j (by omega)
              · (refine canon_mk ?_; simp [method_specs_simp, ordIds_app, ordRen_app, ordIds_app2, ordRen_app2, -map_replicate, -map_set, -map_append, -map_reverse, -map_take, -map_drop, -map_tail, -map_map, tA, tB, hQ1, hE1])
                trace_state
          · dsimp only at next ⊢
            obtain ⟨r1, r2⟩ := sbk_range (c := c) hp (show 0 ≤ q ∧ q < p by omega) a b (k + 1)
            have ra := jacB_a e (show (k + 1) < a.length by omega)
            have rb := jacB_b e (show (k + 2) < a.length by omega)
            have ka : (k + 1) < a.length := by omega
            have kb : (k + 2) < b.length := by omega
            have kai : ((k : Int) + 1) < (a.length : Int) := by omega
            have kbi : ((k : Int) + 1 + 1) < (b.length : Int) := by omega
            have kp : (0 : Int) ≤ ((k : Int) + 1) := by omega
            have kq : (0 : Int) ≤ ((k : Int) + 1 + 1) := by omega
            have kne : ¬ ((k : Int) + 1 + 1) = (a.length : Int) := by omega
            have kt : (((k : Int) + 1 + 1)).toNat = (k + 2) := by omega
            have eA : (sbk p c q a b (k + 2)).2 = (rdI a (k + 1) - c - (sbk p c q a b (k + 1)).1) % p := rfl
            have eQ : (sbk p c q a b (k + 2)).1 = divP p (rdI b (k + 2)) (sbk p c q a b (k + 2)).2 := rfl
            have m1 := mod_small hp (rdI a (k + 1) - c - (sbk p c q a b (k + 1)).1)
            have i1 := invP_range hp (sbk p c q a b (k + 2)).2
            have d1 := divP_range hp (rdI b (k + 2)) (sbk p c q a b (k + 2)).2
            rw [← eA] at m1
            have pm := mul_small hp r1 m1
            have pd := mul_small hp (show 0 ≤ rdI b (k + 2) ∧ rdI b (k + 2) < p by omega) i1
            have tA : tab (k + 2) (sbA p c q a b) = tab (k + 1) (sbA p c q a b) ++ [sbA p c q a b (k + 1)] := tab_succ _ _
            have tB : tab (k + 3) (sbB p c q a b) = tab (k + 2) (sbB p c q a b) ++ [sbB p c q a b (k + 2)] := tab_succ _ _
            have lA := tab_len (k + 1) (sbA p c q a b)
            have lB := tab_len (k + 2) (sbB p c q a b)
            have vA : ((sbk p c q a b (k + 1)).1 + (sbk p c q a b (k + 1)).2 + c).tmod p = sbA p c q a b (k + 1) := by unfold sbA; exact Int.tmod_eq_emod_of_nonneg (by omega)
            have vB : ((sbk p c q a b (k + 1)).1 * (sbk p c q a b (k + 2)).2).tmod p = sbB p c q a b (k + 2) := Int.tmod_eq_emod_of_nonneg pm.1
            have vQ : (rdI b (k + 2) * invP p (sbk p c q a b (k + 2)).2).tmod p = (sbk p c q a b (k + 2)).1 := Int.tmod_eq_emod_of_nonneg pd.1
            have h4 := up (run_l01Mod p (rdI a (k + 1) - c - (sbk p c q a b (k + 1)).1) hp)
            rw [← eA] at h4
            have h5 := up (run_l01Inverse p (sbk p c q a b (k + 2)).2 hp)
            have w2 : IntKind.i64.wrap ((sbk p c q a b (k + 1)).1 + (sbk p c q a b (k + 1)).2) = (sbk p c q a b (k + 1)).1 + (sbk p c q a b (k + 1)).2 := IntWalk.i64_in _ (by omega)
            have w3 : IntKind.i64.wrap ((sbk p c q a b (k + 1)).1 + (sbk p c q a b (k + 1)).2 + c) = (sbk p c q a b (k + 1)).1 + (sbk p c q a b (k + 1)).2 + c := IntWalk.i64_in _ (by omega)
            have w4 : IntKind.i64.wrap (((k : Int) + 1 + 1)) = ((k : Int) + 1 + 1) := IntWalk.i64_in _ (by omega)
            have w5 : IntKind.i64.wrap (rdI a (k + 1) - c) = rdI a (k + 1) - c := IntWalk.i64_in _ (by omega)
            have w6 : IntKind.i64.wrap (rdI a (k + 1) - c - (sbk p c q a b (k + 1)).1) = rdI a (k + 1) - c - (sbk p c q a b (k + 1)).1 := IntWalk.i64_in _ (by omega)
            have w7 : IntKind.i64.wrap ((sbk p c q a b (k + 1)).1 * (sbk p c q a b (k + 2)).2) = (sbk p c q a b (k + 1)).1 * (sbk p c q a b (k + 2)).2 := IntWalk.i64_in _ (by omega)
            have w8 : IntKind.i64.wrap (rdI b (k + 2) * invP p (sbk p c q a b (k + 2)).2) = rdI b (k + 2) * invP p (sbk p c q a b (k + 2)).2 := IntWalk.i64_in _ (by omega)
            have c3 : (k + 2) * 8 ≤ 140737488355328 := by omega
            have c4 : (k + 3) * 8 ≤ 140737488355328 := by omega
            generalize hA : tab (k + 1) (sbA p c q a b) = TA at *
            skip
            generalize hB : tab (k + 2) (sbB p c q a b) = TB at *
            generalize hvA : sbA p c q a b (k + 1) = xA at *
            generalize hvB : sbB p c q a b (k + 2) = xB at *
            generalize hQ1 : (sbk p c q a b (k + 2)).1 = Q1 at *
            generalize hE1 : (sbk p c q a b (k + 2)).2 = E1' at *
            try simp only [show (sbk p c q a b 0).1 = q from rfl, show (sbk p c q a b 0).2 = 0 from rfl, Int.add_zero, Int.zero_add] at w2 w3 w4 w5 w6 w7 w8 vA vB vQ h4 h5
            by_cases hz : E1' = 0
            · have hps : backJ p a b c q = (0, [], [], 5) := by
                have : sbOk p c q a b = false := by
                  unfold sbOk; rw [List.all_eq_false]
                  exact ⟨(k + 1), by simp; omega, by rw [hE1]; simp [hz]⟩
                simp only [backJ, e, e1, e2, this]; rfl
              subst hz
              simp [go_sem, -map_replicate, -map_set, -map_append, -map_reverse, -map_take, -map_drop, -map_tail, -any_map, -all_map, -mapM_map, -map_map, slL, szI, ldI, zI, undL, apL, setI, rdI_get, Nat.add_one_le_iff, fillV, zeros1, zeros0, appendD, segV, lvO, goneOf, sliceD, bound, Nat.add_assoc, szL, ldL, setCs0, setCs1, setCs2, setCsA2, setCsA3, ldM, fM0, fM1, szM, zM, plM0, plM1, agM, paM, ldJ, fJ0, fJ1, fJ2, szJ, zJ, plJ0, plJ1, plJ2, agJ, paJ, ka, kb, kai, kbi, kp, kq, kne, kt, lA, lB, vA, vB, vQ, h4, h5, w2, w3, w4, w5, w6, w7, w8, c3, c4, hpn, fillV]
              repeat refine ⟨by kernel_rfl, by kernel_rfl, ?_⟩
              simp [mvcgen_simp, -map_replicate, -map_set, -map_append, -map_reverse, -map_take, -map_drop, -map_tail, -any_map, -all_map, -mapM_map, -map_map, Try.f30, hps, szL, ldL, setCs0, setCs1, setCs2, setCsA2, setCsA3, ldM, fM0, fM1, szM, zM, plM0, plM1, agM, paM, ldJ, fJ0, fJ1, fJ2, szJ, zJ, plJ0, plJ1, plJ2, agJ, paJ, ctJ, loadD, viewN]
            · simp [go_sem, -map_replicate, -map_set, -map_append, -map_reverse, -map_take, -map_drop, -map_tail, -any_map, -all_map, -mapM_map, -map_map, slL, szI, ldI, zI, undL, apL, setI, rdI_get, Nat.add_one_le_iff, fillV, zeros1, zeros0, appendD, segV, lvO, goneOf, sliceD, bound, Nat.add_assoc, szL, ldL, setCs0, setCs1, setCs2, setCsA2, setCsA3, ldM, fM0, fM1, szM, zM, plM0, plM1, agM, paM, ldJ, fJ0, fJ1, fJ2, szJ, zJ, plJ0, plJ1, plJ2, agJ, paJ, ka, kb, kai, kbi, kp, kq, kne, kt, lA, lB, vA, vB, vQ, h4, h5, w2, w3, w4, w5, w6, w7, w8, c3, c4, hpn, hz, fillV]
              repeat refine ⟨by kernel_rfl, by kernel_rfl, ?_⟩
              refine next _ (fun j hj => ?_) rfl ?_
              · by_cases hj' : j = (k + 1)
                · subst hj'; rw [hE1]; exact hz
                · exact hP j (by omega)
              · (refine canon_mk ?_; simp [method_specs_simp, ordIds_app, ordRen_app, ordIds_app2, ordRen_app2, -map_replicate, -map_set, -map_append, -map_reverse, -map_take, -map_drop, -map_tail, -map_map, tA, tB, hQ1, hE1])
                trace_state
        · intro hP
          have hok : sbOk p c q a b = true := by
            unfold sbOk; rw [List.all_eq_true]
            intro k hk; simp at hk
            simpa using hP k (by omega)
          have hps : backJ p a b c q = (p, tab a.length (sbA p c q a b), tab a.length (sbB p c q a b), 0) := by simp only [backJ, e, e1, e2, hok]; rfl
          generalize hN : a.length - 1 = N at *
          rcases N with _ | k
          · dsimp only
            obtain ⟨r1, r2⟩ := sbk_range (c := c) hp (show 0 ≤ q ∧ q < p by omega) a b 0
            have ka : 0 < a.length := by omega
            have kai : (0 : Int) < (a.length : Int) := by omega
            have kp : (0 : Int) ≤ (0 : Int) := by omega
            have keq : ((1 : Int) = (a.length : Int)) = True := by simp only [eq_iff_iff, iff_true]; omega
            have kl : a.length = 1 := by omega
            have vA : ((sbk p c q a b 0).1 + (sbk p c q a b 0).2 + c).tmod p = sbA p c q a b 0 := by unfold sbA; exact Int.tmod_eq_emod_of_nonneg (by omega)
            have w2 : IntKind.i64.wrap ((sbk p c q a b 0).1 + (sbk p c q a b 0).2) = (sbk p c q a b 0).1 + (sbk p c q a b 0).2 := IntWalk.i64_in _ (by omega)
            have w3 : IntKind.i64.wrap ((sbk p c q a b 0).1 + (sbk p c q a b 0).2 + c) = (sbk p c q a b 0).1 + (sbk p c q a b 0).2 + c := IntWalk.i64_in _ (by omega)
            have w4 : IntKind.i64.wrap (1 : Int) = (1 : Int) := IntWalk.i64_in _ (by omega)
            have c3 : 1 * 8 ≤ 140737488355328 := by omega
            have tA : tab a.length (sbA p c q a b) = tab 0 (sbA p c q a b) ++ [sbA p c q a b 0] := by rw [kl]; exact tab_succ _ _
            have lA := tab_len 0 (sbA p c q a b)
            have lB := tab_len 1 (sbB p c q a b)
            rw [tA, show tab a.length (sbB p c q a b) = tab 1 (sbB p c q a b) by rw [kl]] at hps
            generalize hA : tab 0 (sbA p c q a b) = TA at *
            obtain rfl : TA = [] := hA.symm
            generalize hB : tab 1 (sbB p c q a b) = TB at *
            generalize hvA : sbA p c q a b 0 = xA at *
            try simp only [show (sbk p c q a b 0).1 = q from rfl, show (sbk p c q a b 0).2 = 0 from rfl, Int.add_zero, Int.zero_add] at w2 w3 w4 vA
            simp [go_sem, -map_replicate, -map_set, -map_append, -map_reverse, -map_take, -map_drop, -map_tail, -any_map, -all_map, -mapM_map, -map_map, slL, szI, ldI, zI, undL, apL, setI, rdI_get, Nat.add_one_le_iff, fillV, zeros1, zeros0, appendD, segV, lvO, goneOf, sliceD, bound, Nat.add_assoc, szL, ldL, setCs0, setCs1, setCs2, setCsA2, setCsA3, ldM, fM0, fM1, szM, zM, plM0, plM1, agM, paM, ldJ, fJ0, fJ1, fJ2, szJ, zJ, plJ0, plJ1, plJ2, agJ, paJ, ka, kai, kp, keq, lA, lB, vA, w2, w3, w4, c3, hpn, fillV]
            repeat refine ⟨by kernel_rfl, by kernel_rfl, ?_⟩
            simp [mvcgen_simp, -map_replicate, -map_set, -map_append, -map_reverse, -map_take, -map_drop, -map_tail, -any_map, -all_map, -mapM_map, -map_map, Try.f30, hps, map_snoc, lA, lB, szL, ldL, setCs0, setCs1, setCs2, setCsA2, setCsA3, ldM, fM0, fM1, szM, zM, plM0, plM1, agM, paM, ldJ, fJ0, fJ1, fJ2, szJ, zJ, plJ0, plJ1, plJ2, agJ, paJ, ctJ, loadD, viewN]
          · dsimp only
            obtain ⟨r1, r2⟩ := sbk_range (c := c) hp (show 0 ≤ q ∧ q < p by omega) a b (k + 1)
            have ka : (k + 1) < a.length := by omega
            have kai : ((k : Int) + 1) < (a.length : Int) := by omega
            have kp : (0 : Int) ≤ ((k : Int) + 1) := by omega
            have keq : (((k : Int) + 1 + 1) = (a.length : Int)) = True := by simp only [eq_iff_iff, iff_true]; omega
            have kl : a.length = (k + 2) := by omega
            have vA : ((sbk p c q a b (k + 1)).1 + (sbk p c q a b (k + 1)).2 + c).tmod p = sbA p c q a b (k + 1) := by unfold sbA; exact Int.tmod_eq_emod_of_nonneg (by omega)
            have w2 : IntKind.i64.wrap ((sbk p c q a b (k + 1)).1 + (sbk p c q a b (k + 1)).2) = (sbk p c q a b (k + 1)).1 + (sbk p c q a b (k + 1)).2 := IntWalk.i64_in _ (by omega)
            have w3 : IntKind.i64.wrap ((sbk p c q a b (k + 1)).1 + (sbk p c q a b (k + 1)).2 + c) = (sbk p c q a b (k + 1)).1 + (sbk p c q a b (k + 1)).2 + c := IntWalk.i64_in _ (by omega)
            have w4 : IntKind.i64.wrap ((k : Int) + 1 + 1) = ((k : Int) + 1 + 1) := IntWalk.i64_in _ (by omega)
            have c3 : (k + 2) * 8 ≤ 140737488355328 := by omega
            have tA : tab a.length (sbA p c q a b) = tab (k + 1) (sbA p c q a b) ++ [sbA p c q a b (k + 1)] := by rw [kl]; exact tab_succ _ _
            have lA := tab_len (k + 1) (sbA p c q a b)
            have lB := tab_len (k + 2) (sbB p c q a b)
            rw [tA, show tab a.length (sbB p c q a b) = tab (k + 2) (sbB p c q a b) by rw [kl]] at hps
            generalize hA : tab (k + 1) (sbA p c q a b) = TA at *
            skip
            generalize hB : tab (k + 2) (sbB p c q a b) = TB at *
            generalize hvA : sbA p c q a b (k + 1) = xA at *
            try simp only [show (sbk p c q a b 0).1 = q from rfl, show (sbk p c q a b 0).2 = 0 from rfl, Int.add_zero, Int.zero_add] at w2 w3 w4 vA
            simp [go_sem, -map_replicate, -map_set, -map_append, -map_reverse, -map_take, -map_drop, -map_tail, -any_map, -all_map, -mapM_map, -map_map, slL, szI, ldI, zI, undL, apL, setI, rdI_get, Nat.add_one_le_iff, fillV, zeros1, zeros0, appendD, segV, lvO, goneOf, sliceD, bound, Nat.add_assoc, szL, ldL, setCs0, setCs1, setCs2, setCsA2, setCsA3, ldM, fM0, fM1, szM, zM, plM0, plM1, agM, paM, ldJ, fJ0, fJ1, fJ2, szJ, zJ, plJ0, plJ1, plJ2, agJ, paJ, ka, kai, kp, keq, lA, lB, vA, w2, w3, w4, c3, hpn, fillV]
            repeat refine ⟨by kernel_rfl, by kernel_rfl, ?_⟩
            simp [mvcgen_simp, -map_replicate, -map_set, -map_append, -map_reverse, -map_take, -map_drop, -map_tail, -any_map, -all_map, -mapM_map, -map_map, Try.f30, hps, map_snoc, lA, lB, szL, ldL, setCs0, setCs1, setCs2, setCsA2, setCsA3, ldM, fM0, fM1, szM, zM, plM0, plM1, agM, paM, ldJ, fJ0, fJ1, fJ2, szJ, zJ, plJ0, plJ1, plJ2, agJ, paJ, ctJ, loadD, viewN]
        · (refine canon_mk ?_; simp [method_specs_simp, ordIds_app, ordRen_app, ordIds_app2, ordRen_app2, -map_replicate, -map_set, -map_append, -map_reverse, -map_take, -map_drop, -map_tail, -map_map, tab, sbB])
theorem run_implStepBack (p : Int) (a b : List Int) (c q : Int) (ha : a.length ≤ 1048576) (hb : b.length ≤ 1048576) :
    runv E1 29 [(V.agg [V.int .i64 (p), (V.list (List.length (a)) (List.map (V.int .i64) (a))), (V.list (List.length (b)) (List.map (V.int .i64) (b)))]), .int .i64 c, .int .i64 q] = some ⟨true, .tup [(V.agg [V.int .i64 ((backJ p a b c q).1), (V.uniq 1 (List.length ((backJ p a b c q).2.1)) (List.map (V.int .i64) ((backJ p a b c q).2.1))), (V.uniq 1 (List.length ((backJ p a b c q).2.2.1)) (List.map (V.int .i64) ((backJ p a b c q).2.2.1)))]), .int .i64 (backJ p a b c q).2.2.2], [.agg [.undef, .undef, .undef], .undef, .undef]⟩ := by
  have cdk : codeOk Try.f29.ntmps (Try.f29.body.getD .skip) = true := by kernel_rfl
  refine run_of_WLr (fn := Try.f29) rfl Try.func29 rfl ⟨by simp [Try.ntmps29], by simp [wideA, ints], cdk, by simp [Try.f29]⟩ rfl (by simp [rebOk, noId, adoptT, adoptA, adoptL, adoptC, depth]) ?_
  have g1 := up (run_has p c)
  have g2 := up (run_isUnitW p q)
  have g3 := up (run_Jfield p a b)
  have h1 := up (run_jacobiCode p a b (hasB p c && unitW p q) (by omega) (by omega))
  cases e : jacB p a b with
  | false =>
    rw [e] at h1
    simp only [Bool.false_eq_true, if_false] at h1
    cases e1 : hasB p c <;> cases e2 : unitW p q <;> rw [e1] at g1 h1 <;> rw [e2] at g2 h1 <;> simp only [Bool.and_true, Bool.and_false] at h1 <;> simp [go_sem, -map_replicate, -map_set, -map_append, -map_reverse, -map_take, -map_drop, -map_tail, -any_map, -all_map, -mapM_map, -map_map, slL, szI, ldI, zI, undL, apL, setI, rdI_get, Nat.add_one_le_iff, fillV, zeros1, zeros0, appendD, segV, lvO, goneOf, sliceD, bound, Nat.add_assoc, szL, ldL, setCs0, setCs1, setCs2, setCsA2, setCsA3, ldM, fM0, fM1, szM, zM, plM0, plM1, agM, paM, ldJ, fJ0, fJ1, fJ2, szJ, zJ, plJ0, plJ1, plJ2, agJ, paJ, g1, g2, g3, h1, fillV] <;> (repeat refine ⟨by kernel_rfl, by kernel_rfl, ?_⟩) <;> simp [mvcgen_simp, -map_replicate, -map_set, -map_append, -map_reverse, -map_take, -map_drop, -map_tail, -any_map, -all_map, -mapM_map, -map_map, Try.f29, backJ, e, szL, ldL, setCs0, setCs1, setCs2, setCsA2, setCsA3, ldM, fM0, fM1, szM, zM, plM0, plM1, agM, paM, ldJ, fJ0, fJ1, fJ2, szJ, zJ, plJ0, plJ1, plJ2, agJ, paJ, ctJ, loadD, viewN]
  | true =>
    have hp := jacB_prime e
    have hl := jacB_len e
    rw [e, unitW_eq hp] at h1
    rw [unitW_eq hp] at g2
    cases e1 : hasB p c with
    | false =>
      rw [e1] at g1 h1
      simp only [Bool.false_and, Bool.false_eq_true, if_false, if_true] at h1
      simp [go_sem, -map_replicate, -map_set, -map_append, -map_reverse, -map_take, -map_drop, -map_tail, -any_map, -all_map, -mapM_map, -map_map, slL, szI, ldI, zI, undL, apL, setI, rdI_get, Nat.add_one_le_iff, fillV, zeros1, zeros0, appendD, segV, lvO, goneOf, sliceD, bound, Nat.add_assoc, szL, ldL, setCs0, setCs1, setCs2, setCsA2, setCsA3, ldM, fM0, fM1, szM, zM, plM0, plM1, agM, paM, ldJ, fJ0, fJ1, fJ2, szJ, zJ, plJ0, plJ1, plJ2, agJ, paJ, g1, g2, g3, h1, fillV]
      repeat refine ⟨by kernel_rfl, by kernel_rfl, ?_⟩
      simp [mvcgen_simp, -map_replicate, -map_set, -map_append, -map_reverse, -map_take, -map_drop, -map_tail, -any_map, -all_map, -mapM_map, -map_map, Try.f29, backJ, e, e1, szL, ldL, setCs0, setCs1, setCs2, setCsA2, setCsA3, ldM, fM0, fM1, szM, zM, plM0, plM1, agM, paM, ldJ, fJ0, fJ1, fJ2, szJ, zJ, plJ0, plJ1, plJ2, agJ, paJ, ctJ, loadD, viewN]
    | true =>
      rw [e1] at g1 h1
      cases e2 : unitB p q with
      | false =>
        rw [e2] at g2 h1
        simp only [Bool.and_false, Bool.false_eq_true, if_false, if_true] at h1
        simp [go_sem, -map_replicate, -map_set, -map_append, -map_reverse, -map_take, -map_drop, -map_tail, -any_map, -all_map, -mapM_map, -map_map, slL, szI, ldI, zI, undL, apL, setI, rdI_get, Nat.add_one_le_iff, fillV, zeros1, zeros0, appendD, segV, lvO, goneOf, sliceD, bound, Nat.add_assoc, szL, ldL, setCs0, setCs1, setCs2, setCsA2, setCsA3, ldM, fM0, fM1, szM, zM, plM0, plM1, agM, paM, ldJ, fJ0, fJ1, fJ2, szJ, zJ, plJ0, plJ1, plJ2, agJ, paJ, g1, g2, g3, h1, fillV]
        repeat refine ⟨by kernel_rfl, by kernel_rfl, ?_⟩
        simp [mvcgen_simp, -map_replicate, -map_set, -map_append, -map_reverse, -map_take, -map_drop, -map_tail, -any_map, -all_map, -mapM_map, -map_map, Try.f29, backJ, e, e1, e2, szL, ldL, setCs0, setCs1, setCs2, setCsA2, setCsA3, ldM, fM0, fM1, szM, zM, plM0, plM1, agM, paM, ldJ, fJ0, fJ1, fJ2, szJ, zJ, plJ0, plJ1, plJ2, agJ, paJ, ctJ, loadD, viewN]
      | true =>
        rw [e2] at g2 h1
        simp only [Bool.and_true, Bool.false_eq_true, if_false, if_true] at h1
        have rq := unitB_range e2
        have rc := hasB_range e1
        have b0 := jacB_b e (show 0 < a.length by omega)
        have hb0 : 0 < b.length := by omega
        have h3 := up (run_div p (rdI b 0) q hp (by omega) (by omega))
        simp [go_sem, -map_replicate, -map_set, -map_append, -map_reverse, -map_take, -map_drop, -map_tail, -any_map, -all_map, -mapM_map, -map_map, slL, szI, ldI, zI, undL, apL, setI, rdI_get, Nat.add_one_le_iff, fillV, zeros1, zeros0, appendD, segV, lvO, goneOf, sliceD, bound, Nat.add_assoc, szL, ldL, setCs0, setCs1, setCs2, setCsA2, setCsA3, ldM, fM0, fM1, szM, zM, plM0, plM1, agM, paM, ldJ, fJ0, fJ1, fJ2, szJ, zJ, plJ0, plJ1, plJ2, agJ, paJ, g1, g2, g3, h1, h3, hb0, fillV]
        repeat refine ⟨by kernel_rfl, by kernel_rfl, ?_⟩
        rw [WL_loop]
        refine WL_forP (keep := [1, 2, 3, 6, 9, 10, 11, 44, 45, 46]) (rs := resM Try.f29) rfl (by kernel_rfl) (fun x => match x with | 0 => mkSt [(1, .int .i64 c), (2, .int .i64 q), (3, .ptr 0 0 0), (6, .ptr 1 0 0), (9, .int .i64 p), (10, .ptr 2 0 0), (11, .int .i64 0), (44, (V.list (List.length (a)) (List.map (V.int .i64) (a)))), (45, .int .i64 (a.length : Int)), (46, .int .i64 0)] [some (⟨0, 1, 1, [.int .i64 p, (V.list (List.length (a)) (List.map (V.int .i64) (a))), (V.list (List.length (b)) (List.map (V.int .i64) (b)))]⟩), some (⟨0, 1, 1, [.int .i64 0, .nils, .nils]⟩), some (⟨0, 1, 1, [.int .i64 p, .nils, .sl 3 0 0 1]⟩), some (⟨0, 2, 1, (tab 1 (sbB p c q a b)).map (V.int .i64)⟩)] (resM Try.f29) | k + 1 => mkSt [(1, .int .i64 c), (2, .int .i64 (sbk p c q a b (k + 1)).1), (3, .ptr 0 0 0), (6, .ptr 1 0 0), (9, .int .i64 p), (10, .ptr 2 0 0), (11, .int .i64 (sbk p c q a b (k + 1)).2), (44, (V.list (List.length (a)) (List.map (V.int .i64) (a)))), (45, .int .i64 (a.length : Int)), (46, .int .i64 (k + 1 : Nat))] [some (⟨0, 1, 1, [.int .i64 p, (V.list (List.length (a)) (List.map (V.int .i64) (a))), (V.list (List.length (b)) (List.map (V.int .i64) (b)))]⟩), some (⟨0, 1, 1, [.int .i64 0, .nils, .nils]⟩), some (⟨0, 1, 1, [.int .i64 p, .sl 3 0 0 (k + 1), .sl 4 0 0 (k + 2)]⟩), some (⟨0, 2, 1, (tab (k + 1) (sbA p c q a b)).map (V.int .i64)⟩), some (⟨0, 2, 1, (tab (k + 2) (sbB p c q a b)).map (V.int .i64)⟩)] (resM Try.f29)) (a.length - 1) (fun k => ∀ j, j < k → ¬ (sbk p c q a b (j + 1)).2 = 0) ?_ ?_ 0 _ (by omega) (by omega) rfl ?_
        · intro k hk hP next
          rcases k with _ | k
          · dsimp only at next ⊢
            obtain ⟨r1, r2⟩ := sbk_range (c := c) hp (show 0 ≤ q ∧ q < p by omega) a b 0
            have ra := jacB_a e (show 0 < a.length by omega)
            have rb := jacB_b e (show 1 < a.length by omega)
            have ka : 0 < a.length := by omega
            have kb : 1 < b.length := by omega
            have kai : (0 : Int) < (a.length : Int) := by omega
            have kbi : (1 : Int) < (b.length : Int) := by omega
            have kp : (0 : Int) ≤ (0 : Int) := by omega
            have kq : (0 : Int) ≤ (1 : Int) := by omega
            have kne : ¬ (1 : Int) = (a.length : Int) := by omega
            have kt : ((1 : Int)).toNat = 1 := by omega
            have eA : (sbk p c q a b 1).2 = (rdI a 0 - c - (sbk p c q a b 0).1) % p := rfl
            have eQ : (sbk p c q a b 1).1 = divP p (rdI b 1) (sbk p c q a b 1).2 := rfl
            have m1 := mod_small hp (rdI a 0 - c - (sbk p c q a b 0).1)
            have i1 := invP_range hp (sbk p c q a b 1).2
            have d1 := divP_range hp (rdI b 1) (sbk p c q a b 1).2
            rw [← eA] at m1
            have pm := mul_small hp r1 m1
            have pd := mul_small hp (show 0 ≤ rdI b 1 ∧ rdI b 1 < p by omega) i1
            have tA : tab 1 (sbA p c q a b) = tab 0 (sbA p c q a b) ++ [sbA p c q a b 0] := tab_succ _ _
            have tB : tab 2 (sbB p c q a b) = tab 1 (sbB p c q a b) ++ [sbB p c q a b 1] := tab_succ _ _
            have lA := tab_len 0 (sbA p c q a b)
            have lB := tab_len 1 (sbB p c q a b)
            have h4 := up (run_mod p (rdI a 0 - c - (sbk p c q a b 0).1) hp)
            rw [← eA] at h4
            have h5 := up (run_div p (rdI b 1) (sbk p c q a b 1).2 hp (by omega) (by omega))
            rw [← eQ] at h5
            have w7 : IntKind.i64.wrap ((sbk p c q a b 0).1 * (sbk p c q a b 1).2) = (sbk p c q a b 0).1 * (sbk p c q a b 1).2 := IntWalk.i64_in _ (by omega)
            have h6 := up (run_mul p (sbk p c q a b 0).1 (sbk p c q a b 1).2 hp w7)
            rw [show (sbk p c q a b 0).1 * (sbk p c q a b 1).2 % p = sbB p c q a b 1 from rfl] at h6
            have vA := up (run_mod p ((sbk p c q a b 0).1 + (sbk p c q a b 0).2 + c) hp)
            rw [show ((sbk p c q a b 0).1 + (sbk p c q a b 0).2 + c) % p = sbA p c q a b 0 from rfl] at vA
            have w2 : IntKind.i64.wrap ((sbk p c q a b 0).1 + (sbk p c q a b 0).2) = (sbk p c q a b 0).1 + (sbk p c q a b 0).2 := IntWalk.i64_in _ (by omega)
            have w3 : IntKind.i64.wrap ((sbk p c q a b 0).1 + (sbk p c q a b 0).2 + c) = (sbk p c q a b 0).1 + (sbk p c q a b 0).2 + c := IntWalk.i64_in _ (by omega)
            have w4 : IntKind.i64.wrap (1 : Int) = (1 : Int) := IntWalk.i64_in _ (by omega)
            have w5 : IntKind.i64.wrap (rdI a 0 - c) = rdI a 0 - c := IntWalk.i64_in _ (by omega)
            have w6 : IntKind.i64.wrap (rdI a 0 - c - (sbk p c q a b 0).1) = rdI a 0 - c - (sbk p c q a b 0).1 := IntWalk.i64_in _ (by omega)
            have c3 : 1 * 8 ≤ 140737488355328 := by omega
            have c4 : 2 * 8 ≤ 140737488355328 := by omega
            generalize hA : tab 0 (sbA p c q a b) = TA at *
            obtain rfl : TA = [] := hA.symm
            generalize hB : tab 1 (sbB p c q a b) = TB at *
            generalize hvA : sbA p c q a b 0 = xA at *
            generalize hvB : sbB p c q a b 1 = xB at *
            generalize hQ1 : (sbk p c q a b 1).1 = Q1 at *
            generalize hE1 : (sbk p c q a b 1).2 = E1' at *
            try simp only [show (sbk p c q a b 0).1 = q from rfl, show (sbk p c q a b 0).2 = 0 from rfl, Int.add_zero, Int.zero_add] at w2 w3 w4 w5 w6 vA h4 h5 h6
            by_cases hz : E1' = 0
            · have hps : backJ p a b c q = (0, [], [], 5) := by
                have : sbOk p c q a b = false := by
                  unfold sbOk; rw [List.all_eq_false]
                  exact ⟨0, by simp; omega, by rw [hE1]; simp [hz]⟩
                simp only [backJ, e, e1, e2, this]; rfl
              subst hz
              simp [go_sem, -map_replicate, -map_set, -map_append, -map_reverse, -map_take, -map_drop, -map_tail, -any_map, -all_map, -mapM_map, -map_map, slL, szI, ldI, zI, undL, apL, setI, rdI_get, Nat.add_one_le_iff, fillV, zeros1, zeros0, appendD, segV, lvO, goneOf, sliceD, bound, Nat.add_assoc, szL, ldL, setCs0, setCs1, setCs2, setCsA2, setCsA3, ldM, fM0, fM1, szM, zM, plM0, plM1, agM, paM, ldJ, fJ0, fJ1, fJ2, szJ, zJ, plJ0, plJ1, plJ2, agJ, paJ, ka, kb, kai, kbi, kp, kq, kne, kt, lA, lB, vA, g3, h4, h5, h6, w2, w3, w4, w5, w6, c3, c4, fillV]
              repeat refine ⟨by kernel_rfl, by kernel_rfl, ?_⟩
              simp [mvcgen_simp, -map_replicate, -map_set, -map_append, -map_reverse, -map_take, -map_drop, -map_tail, -any_map, -all_map, -mapM_map, -map_map, Try.f29, hps, szL, ldL, setCs0, setCs1, setCs2, setCsA2, setCsA3, ldM, fM0, fM1, szM, zM, plM0, plM1, agM, paM, ldJ, fJ0, fJ1, fJ2, szJ, zJ, plJ0, plJ1, plJ2, agJ, paJ, ctJ, loadD, viewN]
            · simp [go_sem, -map_replicate, -map_set, -map_append, -map_reverse, -map_take, -map_drop, -map_tail, -any_map, -all_map, -mapM_map, -map_map, slL, szI, ldI, zI, undL, apL, setI, rdI_get, Nat.add_one_le_iff, fillV, zeros1, zeros0, appendD, segV, lvO, goneOf, sliceD, bound, Nat.add_assoc, szL, ldL, setCs0, setCs1, setCs2, setCsA2, setCsA3, ldM, fM0, fM1, szM, zM, plM0, plM1, agM, paM, ldJ, fJ0, fJ1, fJ2, szJ, zJ, plJ0, plJ1, plJ2, agJ, paJ, ka, kb, kai, kbi, kp, kq, kne, kt, lA, lB, vA, g3, h4, h5, h6, w2, w3, w4, w5, w6, c3, c4, hz, fillV]
              repeat refine ⟨by kernel_rfl, by kernel_rfl, ?_⟩
              refine next _ (fun j hj => ?_) rfl ?_
              · by_cases hj' : j = 0
                · subst hj'; rw [hE1]; exact hz
                · exact hP j (by omega)
              · (refine canon_mk ?_; simp [method_specs_simp, ordIds_app, ordRen_app, ordIds_app2, ordRen_app2, -map_replicate, -map_set, -map_append, -map_reverse, -map_take, -map_drop, -map_tail, -map_map, tA, tB, hQ1, hE1])
                trace_state
          · dsimp only at next ⊢
            obtain ⟨r1, r2⟩ := sbk_range (c := c) hp (show 0 ≤ q ∧ q < p by omega) a b (k + 1)
            have ra := jacB_a e (show (k + 1) < a.length by omega)
            have rb := jacB_b e (show (k + 2) < a.length by omega)
            have ka : (k + 1) < a.length := by omega
            have kb : (k + 2) < b.length := by omega
            have kai : ((k : Int) + 1) < (a.length : Int) := by omega
            have kbi : ((k : Int) + 1 + 1) < (b.length : Int) := by omega
            have kp : (0 : Int) ≤ ((k : Int) + 1) := by omega
            have kq : (0 : Int) ≤ ((k : Int) + 1 + 1) := by omega
            have kne : ¬ ((k : Int) + 1 + 1) = (a.length : Int) := by omega
            have kt : (((k : Int) + 1 + 1)).toNat = (k + 2) := by omega
            have eA : (sbk p c q a b (k + 2)).2 = (rdI a (k + 1) - c - (sbk p c q a b (k + 1)).1) % p := rfl
            have eQ : (sbk p c q a b (k + 2)).1 = divP p (rdI b (k + 2)) (sbk p c q a b (k + 2)).2 := rfl
            have m1 := mod_small hp (rdI a (k + 1) - c - (sbk p c q a b (k + 1)).1)
            have i1 := invP_range hp (sbk p c q a b (k + 2)).2
            have d1 := divP_range hp (rdI b (k + 2)) (sbk p c q a b (k + 2)).2
            rw [← eA] at m1
            have pm := mul_small hp r1 m1
            have pd := mul_small hp (show 0 ≤ rdI b (k + 2) ∧ rdI b (k + 2) < p by omega) i1
            have tA : tab (k + 2) (sbA p c q a b) = tab (k + 1) (sbA p c q a b) ++ [sbA p c q a b (k + 1)] := tab_succ _ _
            have tB : tab (k + 3) (sbB p c q a b) = tab (k + 2) (sbB p c q a b) ++ [sbB p c q a b (k + 2)] := tab_succ _ _
            have lA := tab_len (k + 1) (sbA p c q a b)
            have lB := tab_len (k + 2) (sbB p c q a b)
            have h4 := up (run_mod p (rdI a (k + 1) - c - (sbk p c q a b (k + 1)).1) hp)
            rw [← eA] at h4
            have h5 := up (run_div p (rdI b (k + 2)) (sbk p c q a b (k + 2)).2 hp (by omega) (by omega))
            rw [← eQ] at h5
            have w7 : IntKind.i64.wrap ((sbk p c q a b (k + 1)).1 * (sbk p c q a b (k + 2)).2) = (sbk p c q a b (k + 1)).1 * (sbk p c q a b (k + 2)).2 := IntWalk.i64_in _ (by omega)
            have h6 := up (run_mul p (sbk p c q a b (k + 1)).1 (sbk p c q a b (k + 2)).2 hp w7)
            rw [show (sbk p c q a b (k + 1)).1 * (sbk p c q a b (k + 2)).2 % p = sbB p c q a b (k + 2) from rfl] at h6
            have vA := up (run_mod p ((sbk p c q a b (k + 1)).1 + (sbk p c q a b (k + 1)).2 + c) hp)
            rw [show ((sbk p c q a b (k + 1)).1 + (sbk p c q a b (k + 1)).2 + c) % p = sbA p c q a b (k + 1) from rfl] at vA
            have w2 : IntKind.i64.wrap ((sbk p c q a b (k + 1)).1 + (sbk p c q a b (k + 1)).2) = (sbk p c q a b (k + 1)).1 + (sbk p c q a b (k + 1)).2 := IntWalk.i64_in _ (by omega)
            have w3 : IntKind.i64.wrap ((sbk p c q a b (k + 1)).1 + (sbk p c q a b (k + 1)).2 + c) = (sbk p c q a b (k + 1)).1 + (sbk p c q a b (k + 1)).2 + c := IntWalk.i64_in _ (by omega)
            have w4 : IntKind.i64.wrap ((k : Int) + 1 + 1) = ((k : Int) + 1 + 1) := IntWalk.i64_in _ (by omega)
            have w5 : IntKind.i64.wrap (rdI a (k + 1) - c) = rdI a (k + 1) - c := IntWalk.i64_in _ (by omega)
            have w6 : IntKind.i64.wrap (rdI a (k + 1) - c - (sbk p c q a b (k + 1)).1) = rdI a (k + 1) - c - (sbk p c q a b (k + 1)).1 := IntWalk.i64_in _ (by omega)
            have c3 : (k + 2) * 8 ≤ 140737488355328 := by omega
            have c4 : (k + 3) * 8 ≤ 140737488355328 := by omega
            generalize hA : tab (k + 1) (sbA p c q a b) = TA at *
            skip
            generalize hB : tab (k + 2) (sbB p c q a b) = TB at *
            generalize hvA : sbA p c q a b (k + 1) = xA at *
            generalize hvB : sbB p c q a b (k + 2) = xB at *
            generalize hQ1 : (sbk p c q a b (k + 2)).1 = Q1 at *
            generalize hE1 : (sbk p c q a b (k + 2)).2 = E1' at *
            try simp only [show (sbk p c q a b 0).1 = q from rfl, show (sbk p c q a b 0).2 = 0 from rfl, Int.add_zero, Int.zero_add] at w2 w3 w4 w5 w6 vA h4 h5 h6
            by_cases hz : E1' = 0
            · have hps : backJ p a b c q = (0, [], [], 5) := by
                have : sbOk p c q a b = false := by
                  unfold sbOk; rw [List.all_eq_false]
                  exact ⟨(k + 1), by simp; omega, by rw [hE1]; simp [hz]⟩
                simp only [backJ, e, e1, e2, this]; rfl
              subst hz
              simp [go_sem, -map_replicate, -map_set, -map_append, -map_reverse, -map_take, -map_drop, -map_tail, -any_map, -all_map, -mapM_map, -map_map, slL, szI, ldI, zI, undL, apL, setI, rdI_get, Nat.add_one_le_iff, fillV, zeros1, zeros0, appendD, segV, lvO, goneOf, sliceD, bound, Nat.add_assoc, szL, ldL, setCs0, setCs1, setCs2, setCsA2, setCsA3, ldM, fM0, fM1, szM, zM, plM0, plM1, agM, paM, ldJ, fJ0, fJ1, fJ2, szJ, zJ, plJ0, plJ1, plJ2, agJ, paJ, ka, kb, kai, kbi, kp, kq, kne, kt, lA, lB, vA, g3, h4, h5, h6, w2, w3, w4, w5, w6, c3, c4, fillV]
              repeat refine ⟨by kernel_rfl, by kernel_rfl, ?_⟩
              simp [mvcgen_simp, -map_replicate, -map_set, -map_append, -map_reverse, -map_take, -map_drop, -map_tail, -any_map, -all_map, -mapM_map, -map_map, Try.f29, hps, szL, ldL, setCs0, setCs1, setCs2, setCsA2, setCsA3, ldM, fM0, fM1, szM, zM, plM0, plM1, agM, paM, ldJ, fJ0, fJ1, fJ2, szJ, zJ, plJ0, plJ1, plJ2, agJ, paJ, ctJ, loadD, viewN]
            · simp [go_sem, -map_replicate, -map_set, -map_append, -map_reverse, -map_take, -map_drop, -map_tail, -any_map, -all_map, -mapM_map, -map_map, slL, szI, ldI, zI, undL, apL, setI, rdI_get, Nat.add_one_le_iff, fillV, zeros1, zeros0, appendD, segV, lvO, goneOf, sliceD, bound, Nat.add_assoc, szL, ldL, setCs0, setCs1, setCs2, setCsA2, setCsA3, ldM, fM0, fM1, szM, zM, plM0, plM1, agM, paM, ldJ, fJ0, fJ1, fJ2, szJ, zJ, plJ0, plJ1, plJ2, agJ, paJ, ka, kb, kai, kbi, kp, kq, kne, kt, lA, lB, vA, g3, h4, h5, h6, w2, w3, w4, w5, w6, c3, c4, hz, fillV]
              repeat refine ⟨by kernel_rfl, by kernel_rfl, ?_⟩
              refine next _ (fun j hj => ?_) rfl ?_
              · by_cases hj' : j = (k + 1)
                · subst hj'; rw [hE1]; exact hz
                · exact hP j (by omega)
              · (refine canon_mk ?_; simp [method_specs_simp, ordIds_app, ordRen_app, ordIds_app2, ordRen_app2, -map_replicate, -map_set, -map_append, -map_reverse, -map_take, -map_drop, -map_tail, -map_map, tA, tB, hQ1, hE1])
                trace_state
        · intro hP
          have hok : sbOk p c q a b = true := by
            unfold sbOk; rw [List.all_eq_true]
            intro k hk; simp at hk
            simpa using hP k (by omega)
          have hps : backJ p a b c q = (p, tab a.length (sbA p c q a b), tab a.length (sbB p c q a b), 0) := by simp only [backJ, e, e1, e2, hok]; rfl
          generalize hN : a.length - 1 = N at *
          rcases N with _ | k
          · dsimp only
            obtain ⟨r1, r2⟩ := sbk_range (c := c) hp (show 0 ≤ q ∧ q < p by omega) a b 0
            have ka : 0 < a.length := by omega
            have kai : (0 : Int) < (a.length : Int) := by omega
            have kp : (0 : Int) ≤ (0 : Int) := by omega
            have keq : ((1 : Int) = (a.length : Int)) = True := by simp only [eq_iff_iff, iff_true]; omega
            have kl : a.length = 1 := by omega
            have vA := up (run_mod p ((sbk p c q a b 0).1 + (sbk p c q a b 0).2 + c) hp)
            rw [show ((sbk p c q a b 0).1 + (sbk p c q a b 0).2 + c) % p = sbA p c q a b 0 from rfl] at vA
            have w2 : IntKind.i64.wrap ((sbk p c q a b 0).1 + (sbk p c q a b 0).2) = (sbk p c q a b 0).1 + (sbk p c q a b 0).2 := IntWalk.i64_in _ (by omega)
            have w3 : IntKind.i64.wrap ((sbk p c q a b 0).1 + (sbk p c q a b 0).2 + c) = (sbk p c q a b 0).1 + (sbk p c q a b 0).2 + c := IntWalk.i64_in _ (by omega)
            have w4 : IntKind.i64.wrap (1 : Int) = (1 : Int) := IntWalk.i64_in _ (by omega)
            have c3 : 1 * 8 ≤ 140737488355328 := by omega
            have tA : tab a.length (sbA p c q a b) = tab 0 (sbA p c q a b) ++ [sbA p c q a b 0] := by rw [kl]; exact tab_succ _ _
            have lA := tab_len 0 (sbA p c q a b)
            have lB := tab_len 1 (sbB p c q a b)
            rw [tA, show tab a.length (sbB p c q a b) = tab 1 (sbB p c q a b) by rw [kl]] at hps
            generalize hA : tab 0 (sbA p c q a b) = TA at *
            obtain rfl : TA = [] := hA.symm
            generalize hB : tab 1 (sbB p c q a b) = TB at *
            generalize hvA : sbA p c q a b 0 = xA at *
            try simp only [show (sbk p c q a b 0).1 = q from rfl, show (sbk p c q a b 0).2 = 0 from rfl, Int.add_zero, Int.zero_add] at w2 w3 w4 vA
            simp [go_sem, -map_replicate, -map_set, -map_append, -map_reverse, -map_take, -map_drop, -map_tail, -any_map, -all_map, -mapM_map, -map_map, slL, szI, ldI, zI, undL, apL, setI, rdI_get, Nat.add_one_le_iff, fillV, zeros1, zeros0, appendD, segV, lvO, goneOf, sliceD, bound, Nat.add_assoc, szL, ldL, setCs0, setCs1, setCs2, setCsA2, setCsA3, ldM, fM0, fM1, szM, zM, plM0, plM1, agM, paM, ldJ, fJ0, fJ1, fJ2, szJ, zJ, plJ0, plJ1, plJ2, agJ, paJ, ka, kai, kp, keq, lA, lB, vA, g3, w2, w3, w4, c3, fillV]
            repeat refine ⟨by kernel_rfl, by kernel_rfl, ?_⟩
            simp [mvcgen_simp, -map_replicate, -map_set, -map_append, -map_reverse, -map_take, -map_drop, -map_tail, -any_map, -all_map, -mapM_map, -map_map, Try.f29, hps, map_snoc, lA, lB, szL, ldL, setCs0, setCs1, setCs2, setCsA2, setCsA3, ldM, fM0, fM1, szM, zM, plM0, plM1, agM, paM, ldJ, fJ0, fJ1, fJ2, szJ, zJ, plJ0, plJ1, plJ2, agJ, paJ, ctJ, loadD, viewN]
          · dsimp only
            obtain ⟨r1, r2⟩ := sbk_range (c := c) hp (show 0 ≤ q ∧ q < p by omega) a b (k + 1)
            have ka : (k + 1) < a.length := by omega
            have kai : ((k : Int) + 1) < (a.length : Int) := by omega
            have kp : (0 : Int) ≤ ((k : Int) + 1) := by omega
            have keq : (((k : Int) + 1 + 1) = (a.length : Int)) = True := by simp only [eq_iff_iff, iff_true]; omega
            have kl : a.length = (k + 2) := by omega
            have vA := up (run_mod p ((sbk p c q a b (k + 1)).1 + (sbk p c q a b (k + 1)).2 + c) hp)
            rw [show ((sbk p c q a b (k + 1)).1 + (sbk p c q a b (k + 1)).2 + c) % p = sbA p c q a b (k + 1) from rfl] at vA
            have w2 : IntKind.i64.wrap ((sbk p c q a b (k + 1)).1 + (sbk p c q a b (k + 1)).2) = (sbk p c q a b (k + 1)).1 + (sbk p c q a b (k + 1)).2 := IntWalk.i64_in _ (by omega)
            have w3 : IntKind.i64.wrap ((sbk p c q a b (k + 1)).1 + (sbk p c q a b (k + 1)).2 + c) = (sbk p c q a b (k + 1)).1 + (sbk p c q a b (k + 1)).2 + c := IntWalk.i64_in _ (by omega)
            have w4 : IntKind.i64.wrap ((k : Int) + 1 + 1) = ((k : Int) + 1 + 1) := IntWalk.i64_in _ (by omega)
            have c3 : (k + 2) * 8 ≤ 140737488355328 := by omega
            have tA : tab a.length (sbA p c q a b) = tab (k + 1) (sbA p c q a b) ++ [sbA p c q a b (k + 1)] := by rw [kl]; exact tab_succ _ _
            have lA := tab_len (k + 1) (sbA p c q a b)
            have lB := tab_len (k + 2) (sbB p c q a b)
            rw [tA, show tab a.length (sbB p c q a b) = tab (k + 2) (sbB p c q a b) by rw [kl]] at hps
            generalize hA : tab (k + 1) (sbA p c q a b) = TA at *
            skip
            generalize hB : tab (k + 2) (sbB p c q a b) = TB at *
            generalize hvA : sbA p c q a b (k + 1) = xA at *
            try simp only [show (sbk p c q a b 0).1 = q from rfl, show (sbk p c q a b 0).2 = 0 from rfl, Int.add_zero, Int.zero_add] at w2 w3 w4 vA
            simp [go_sem, -map_replicate, -map_set, -map_append, -map_reverse, -map_take, -map_drop, -map_tail, -any_map, -all_map, -mapM_map, -map_map, slL, szI, ldI, zI, undL, apL, setI, rdI_get, Nat.add_one_le_iff, fillV, zeros1, zeros0, appendD, segV, lvO, goneOf, sliceD, bound, Nat.add_assoc, szL, ldL, setCs0, setCs1, setCs2, setCsA2, setCsA3, ldM, fM0, fM1, szM, zM, plM0, plM1, agM, paM, ldJ, fJ0, fJ1, fJ2, szJ, zJ, plJ0, plJ1, plJ2, agJ, paJ, ka, kai, kp, keq, lA, lB, vA, g3, w2, w3, w4, c3, fillV]
            repeat refine ⟨by kernel_rfl, by kernel_rfl, ?_⟩
            simp [mvcgen_simp, -map_replicate, -map_set, -map_append, -map_reverse, -map_take, -map_drop, -map_tail, -any_map, -all_map, -mapM_map, -map_map, Try.f29, hps, map_snoc, lA, lB, szL, ldL, setCs0, setCs1, setCs2, setCsA2, setCsA3, ldM, fM0, fM1, szM, zM, plM0, plM1, agM, paM, ldJ, fJ0, fJ1, fJ2, szJ, zJ, plJ0, plJ1, plJ2, agJ, paJ, ctJ, loadD, viewN]
        · (refine canon_mk ?_; simp [method_specs_simp, ordIds_app, ordRen_app, ordIds_app2, ordRen_app2, -map_replicate, -map_set, -map_append, -map_reverse, -map_take, -map_drop, -map_tail, -map_map, tab, sbB])


end Go.Proofs.Ytabnganndcmcnaa.Ev
