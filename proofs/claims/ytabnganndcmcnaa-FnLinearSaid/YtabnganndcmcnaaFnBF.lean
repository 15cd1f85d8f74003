/- Expansions, by both texts. Conditions: none. -/
import Derived.Test.YtabnganndcmcnaaFnBE
set_option linter.unusedSimpArgs false
set_option linter.unusedVariables false
namespace Go.Proofs.Ytabnganndcmcnaa.Ev
open Go Go.Proofs
open List (map_replicate map_set map_append map_reverse map_take map_drop map_tail any_map all_map mapM_map map_map)
set_option maxRecDepth 4000
set_option maxHeartbeats 4000000

/-! ### The greatest numbers -/
theorem addAt_rd {p : Int} {l : List Int} {i j : Nat} {x : Int} (h : j < l.length) : rdI (addAt p l i x) j = if i = j then (rdI l i + x) % p else rdI l j := by
  unfold addAt; rw [rdI_set h]
theorem mulK_rd (p : Int) (f g : List Int) (i : Nat) (A : List Int) : ∀ K j, i + K ≤ A.length → j < A.length → rdI (mulK p f g i A K) j = if i ≤ j ∧ j < i + K then (rdI A j + rdI f i * rdI g (j - i)) % p else rdI A j
  | 0, j, h, hj => by rw [mulK, if_neg (by omega)]
  | K + 1, j, h, hj => by
    rw [mulK, addAt_rd (by rw [mulK_len]; exact hj)]
    have ih := mulK_rd p f g i A K j (by omega) hj
    by_cases e : i + K = j
    · subst e
      rw [if_pos rfl, ih, if_neg (by omega), if_pos (by omega), show i + K - i = K by omega]
    · rw [if_neg e, ih]
      by_cases c : i ≤ j ∧ j < i + K
      · rw [if_pos c, if_pos (by omega)]
      · rw [if_neg c, if_neg (by omega)]
theorem rdI_zeros (n j : Nat) : rdI (List.replicate n (0 : Int)) j = 0 := by
  simp [rdI, List.getD_eq_getElem?_getD, List.getElem?_replicate]; split <;> rfl
theorem mulP_monic {p : Int} (hp : 2 ≤ p ∧ p ≤ 10007) (c : Int) {g : List Int} {m : Nat} (hg : g.length = m + 1) (h1 : rdI g m = 1) : (mulP p [c, 1] g).length = m + 2 ∧ rdI (mulP p [c, 1] g) (m + 1) = 1 := by
  have e : mulP p [c, 1] g = trimL (mulI p [c, 1] g 2) := by
    unfold mulP; rw [if_neg (by rw [hg]; simp)]; rfl
  have l2 : (mulI p [c, 1] g 2).length = m + 2 := by rw [mulI_len]; simp; omega
  have t2 : rdI (mulI p [c, 1] g 2) (m + 1) = 1 := by
    rw [mulI, mulK_rd _ _ _ _ _ _ _ (by rw [mulI_len]; simp only [List.length_cons, List.length_nil]; omega) (by rw [mulI_len]; simp only [List.length_cons, List.length_nil]; omega), if_pos (by omega), mulI,
      mulK_rd _ _ _ _ _ _ _ (by simp only [mulI, List.length_replicate, List.length_cons, List.length_nil]; omega) (by simp only [mulI, List.length_replicate, List.length_cons, List.length_nil]; omega), if_neg (by omega), mulI, rdI_zeros, show m + 1 - 1 = m by omega, h1]
    show (0 + 1 * 1) % p = 1
    exact Int.emod_eq_of_lt (by omega) (by omega)
  have := trimL_top (f := mulI p [c, 1] g 2) (by omega) (by rw [l2, show m + 2 - 1 = m + 1 by omega, t2]; omega)
  rw [e, this]
  exact ⟨l2, t2⟩
theorem addP_monic {p : Int} {f g : List Int} (k : Int) {n : Nat} (hf : f.length = n + 1) (hg : g.length ≤ n) (h1 : rdI f n = 1) : (addP p f g k).length = n + 1 ∧ rdI (addP p f g k) n = 1 := by
  have l := addR_len p f g k
  rw [hf, Nat.max_eq_left (by omega)] at l
  have t : rdI (addR p f g k) n = 1 := by
    unfold addR; rw [inpl_at (by omega), if_neg (by omega), h1]
  have := trimL_top (f := addR p f g k) (by omega) (by rw [l, Nat.add_sub_cancel, t]; omega)
  unfold addP; rw [this]
  exact ⟨l, t⟩
theorem pl_monic {p : Int} (hp : 2 ≤ p ∧ p ≤ 10007) (a b : List Int) : ∀ k, (pl p a b k).1.length = k + 1 ∧ rdI (pl p a b k).1 k = 1
  | 0 => ⟨rfl, rfl⟩
  | k + 1 => by
    have ih := pl_monic hp a b k
    have l := (pl_le p a b k).2
    have m := mulP_monic hp ((-(rdI a k)) % p) ih.1 ih.2
    exact addP_monic _ m.1 (by omega) m.2

/-! ### Expansions -/
def exF (p : Int) (a b : List Int) : Nat → List Int → List Int → List Int
  | 0, _, out => out
  | n + 1, f, out => if f.length = 0 then out else exF p a b n (addP p f (pl p a b (f.length - 1)).1 ((-(rdI f (f.length - 1))) % p)) (out.set (f.length - 1) (rdI f (f.length - 1)))
def expandP (p : Int) (a b f : List Int) : List Int := exF p a b f.length f (List.replicate f.length 0)
theorem exF_nil (p : Int) (a b out : List Int) : ∀ n, exF p a b n [] out = out
  | 0 => rfl
  | n + 1 => by rw [exF, if_pos (show ([] : List Int).length = 0 from rfl)]
theorem exF_len (p : Int) (a b : List Int) : ∀ n f out, (exF p a b n f out).length = out.length
  | 0, _, _ => rfl
  | n + 1, f, out => by
    rw [exF]; split
    · rfl
    · rw [exF_len p a b n]; simp
theorem expandP_len (p : Int) (a b f : List Int) : (expandP p a b f).length = f.length := by rw [expandP, exF_len]; simp
theorem down {p : Int} (hp : 2 ≤ p ∧ p ≤ 10007) (a b : List Int) {f : List Int} {k : Nat} (hk : f.length = k + 1) : (addP p f (pl p a b k).1 ((-(rdI f k)) % p)).length ≤ k := by
  have m := pl_monic hp a b k
  have l := addR_len p f (pl p a b k).1 ((-(rdI f k)) % p)
  rw [hk, m.1, Nat.max_self] at l
  refine trimL_zero l ?_
  unfold addR
  rw [inpl_at (by omega), if_pos (by omega), m.2, Int.mul_one]
  rw [add_mod_congr (b := rdI f k) (d := -(rdI f k)) rfl (emod_emod' _ _), Int.add_right_neg, Int.zero_emod]

theorem run_degree (f : List Int) (hl : f.length ≤ 9223372036854775807) : runv E1 183 [(V.list (List.length (f)) (List.map (V.int .i64) (f)))] = some ⟨true, .int .i64 ((f.length : Int) - 1), [.undef]⟩ := by
  have cdk : codeOk Try.f183.ntmps (Try.f183.body.getD .skip) = true := by kernel_rfl
  refine run_of_WLr (fn := Try.f183) rfl Try.func183 rfl ⟨by simp [Try.ntmps183], by simp [wideA, ints], cdk, by simp [Try.f183]⟩ rfl (by simp [rebOk, noId, adoptT, adoptA, adoptL, adoptC, depth]) ?_
  have h1 := up (run_length f)
  have w : IntKind.i64.wrap ((f.length : Int) - 1) = (f.length : Int) - 1 := IntWalk.i64_in _ (by omega)
  simp [go_sem, -map_replicate, -map_set, -map_append, -map_reverse, -map_take, -map_drop, -map_tail, -any_map, -all_map, -mapM_map, -map_map, slL, szI, ldI, zI, undL, apL, setI, rdI_get, Nat.add_one_le_iff, fillV, zeros1, zeros0, appendD, segV, lvO, goneOf, sliceD, bound, Nat.add_assoc, h1, w]
  simp [mvcgen_simp, -map_replicate, -map_set, -map_append, -map_reverse, -map_take, -map_drop, -map_tail, -any_map, -all_map, -mapM_map, -map_map, Try.f183]
theorem run_expand (p : Int) (a b f : List Int) (h : jacB p a b = true) (hc : f.length ≤ a.length + 1) (hf : fine p f) :
    runv E1 184 [.int .i64 p, (V.list (List.length (f)) (List.map (V.int .i64) (f))), .list (a.length + 1) ((prow p a b (a.length + 1)).map LV)] = some ⟨true, (V.uniq 1 (List.length (expandP p a b f)) (List.map (V.int .i64) (expandP p a b f))), [.undef, .undef, .undef]⟩ := by
  have cdk : codeOk Try.f184.ntmps (Try.f184.body.getD .skip) = true := by kernel_rfl
  refine run_of_WLr (fn := Try.f184) rfl Try.func184 rfl ⟨by simp [Try.ntmps184], by simp [wideA, ints], cdk, by simp [Try.f184]⟩ rfl (by simp [rebOk, noId, adoptT, adoptA, adoptL, adoptC, depth]) ?_
  have hp := jacB_prime h
  have hl := jacB_len h
  obtain ⟨n, hn⟩ : ∃ n, n = f.length := ⟨_, rfl⟩
  have c1 : n * 8 ≤ 140737488355328 := by omega
  have c2 : (n : Int) ≤ 9223372036854775807 := by omega
  have lE := expandP_len p a b f
  rw [← hn] at lE
  simp [go_sem, -map_replicate, -map_set, -map_append, -map_reverse, -map_take, -map_drop, -map_tail, -any_map, -all_map, -mapM_map, -map_map, slL, szI, ldI, zI, undL, apL, setI, rdI_get, Nat.add_one_le_iff, fillV, zeros1, zeros0, appendD, segV, lvO, goneOf, sliceD, bound, Nat.add_assoc, ← hn, c1, c2, zerosI]
  rw [WL_loop]
  refine WL_forX (keep := [0, 1, 2, 7]) (rs := resM Try.f184) rfl (by kernel_rfl) (fun x : Bool × List Int × List Int × Nat => match x with
      | (true, g, out, _) => mkSt [(0, .int .i64 p), (1, (V.list (List.length (g)) (List.map (V.int .i64) (g)))), (2, .list (a.length + 1) ((prow p a b (a.length + 1)).map LV)), (7, .sl 0 0 0 n)] [some (⟨0, 2, 1, out.map (V.int .i64)⟩)] (resM Try.f184)
      | (false, g, out, _) => mkSt [(0, .int .i64 p), (1, .sl 0 0 0 g.length), (2, .list (a.length + 1) ((prow p a b (a.length + 1)).map LV)), (7, .sl 1 0 0 n)] [some (⟨0, 2, 1, g.map (V.int .i64)⟩), some (⟨0, 2, 1, out.map (V.int .i64)⟩)] (resM Try.f184))
    (fun x => fine p x.2.1 ∧ x.2.1.length ≤ x.2.2.2 ∧ x.2.2.2 ≤ n ∧ x.2.2.1.length = n ∧ exF p a b x.2.2.2 x.2.1 x.2.2.1 = expandP p a b f) (fun x => x.2.2.2) ?_ (true, f, List.replicate n 0, n) _ ?_ rfl ?_
  · rintro ⟨fl, g, out, m⟩ ⟨g1, g2, g3, g4, g5⟩ next
    simp only at g1 g2 g3 g4 g5
    rcases hg : g with _ | ⟨y, ys⟩
    · subst hg
      rw [exF_nil] at g5
      subst g5
      cases fl
      all_goals
        dsimp only
        simp [go_sem, -map_replicate, -map_set, -map_append, -map_reverse, -map_take, -map_drop, -map_tail, -any_map, -all_map, -mapM_map, -map_map, slL, szI, ldI, zI, undL, apL, setI, rdI_get, Nat.add_one_le_iff, fillV, zeros1, zeros0, appendD, segV, lvO, goneOf, sliceD, bound, Nat.add_assoc]
        simp [mvcgen_simp, -map_replicate, -map_set, -map_append, -map_reverse, -map_take, -map_drop, -map_tail, -any_map, -all_map, -mapM_map, -map_map, Try.f184, lE]
    · obtain ⟨k, hk⟩ : ∃ k, g.length = k + 1 := ⟨ys.length, by rw [hg]; rfl⟩
      rw [← hg]
      have hne : ¬ g = [] := by rw [hg]; simp
      have hpos : 0 < g.length := by omega
      obtain ⟨m, rfl⟩ : ∃ j, m = j + 1 := ⟨m - 1, by omega⟩
      rw [exF, if_neg (by omega), hk, Nat.add_sub_cancel] at g5
      have dn := down hp a b hk
      have d0 := run_degree g (by omega)
      have ed : ((g.length : Int) - 1) = (k : Int) := by omega
      rw [ed] at d0
      have rk := g1 k
      have w1 : IntKind.i64.wrap (-(rdI g k)) = -(rdI g k) := IntWalk.i64_in _ (by omega)
      have d1 := up (run_mod p (-(rdI g k)) hp)
      have h2 := run_add p ((-(rdI g k)) % p) g (pl p a b k).1 hp g1 (pl_fine hp a b k).1 (mod_small hp _) (by omega) (by have := (pl_le p a b k).1; omega)
      have f2 := addP_fine hp g1 (g := (pl p a b k).1) ((-(rdI g k)) % p)
      have kg : k < g.length := by omega
      have kgi : (k : Int) < g.length := by omega
      have ko : k < out.length := by omega
      have kn : k < n := by omega
      have kni : (k : Int) < n := by omega
      have ka : k < a.length + 1 := by omega
      have kai : (k : Int) < (a.length : Int) + 1 := by omega
      have ro : rdI (out.set k (rdI g k)) k = rdI g k := by rw [rdI_set ko, if_pos rfl]
      have so : (out.set k (rdI g k)).length = n := by simp [g4]
      cases fl
      all_goals
        dsimp only at next ⊢
        simp [go_sem, -map_replicate, -map_set, -map_append, -map_reverse, -map_take, -map_drop, -map_tail, -any_map, -all_map, -mapM_map, -map_map, slL, szI, ldI, zI, undL, apL, setI, rdI_get, Nat.add_one_le_iff, fillV, zeros1, zeros0, appendD, segV, lvO, goneOf, sliceD, bound, Nat.add_assoc, szL, ldL, setCs0, setCs1, setCs2, setCsA2, setCsA3, ldM, fM0, fM1, szM, zM, plM0, plM1, agM, paM, ldJ, fJ0, fJ1, fJ2, szJ, zJ, plJ0, plJ1, plJ2, agJ, paJ, hne, hpos, d0, kg, kgi, ko, kn, kni, ka, kai, g4, w1, d1, h2, ro, so, prow_get, prow_len, slR, LV, setCs1, setCs0]
        repeat refine ⟨by kernel_rfl, by kernel_rfl, ?_⟩
        refine next (false, addP p g (pl p a b k).1 ((-(rdI g k)) % p), out.set k (rdI g k), m) _ ⟨f2, Nat.le_trans dn (show k ≤ m by omega), Nat.le_of_succ_le g3, so, g5⟩ (Nat.lt_succ_self m) rfl ?_
        (refine canon_mk ?_; simp [method_specs_simp, ordIds_app, ordRen_app, ordIds_app2, ordRen_app2, -map_replicate, -map_set, -map_append, -map_reverse, -map_take, -map_drop, -map_tail, -map_map])
  · exact ⟨hf, by simp [hn], Nat.le_refl _, by simp, by simp only [expandP, hn]⟩
  · (refine canon_mk ?_; simp [method_specs_simp, ordIds_app, ordRen_app, ordIds_app2, ordRen_app2, -map_replicate, -map_set, -map_append, -map_reverse, -map_take, -map_drop, -map_tail, -map_map, ← hn])
theorem run_l10Expand (p : Int) (a b f : List Int) (h : jacB p a b = true) (hc : f.length ≤ a.length + 1) (hf : fine p f) :
    runv E1 186 [(V.agg [V.int .i64 (p), (V.list (List.length (a)) (List.map (V.int .i64) (a))), (V.list (List.length (b)) (List.map (V.int .i64) (b)))]), (V.list (List.length (f)) (List.map (V.int .i64) (f)))] = some ⟨true, (V.uniq 1 (List.length (expandP p a b f)) (List.map (V.int .i64) (expandP p a b f))), [.agg [.undef, .undef, .undef], .undef]⟩ := by
  have cdk : codeOk Try.f186.ntmps (Try.f186.body.getD .skip) = true := by kernel_rfl
  refine run_of_WLr (fn := Try.f186) rfl Try.func186 rfl ⟨by simp [Try.ntmps186], by simp [wideA, ints], cdk, by simp [Try.f186]⟩ rfl (by simp [rebOk, noId, adoptT, adoptA, adoptL, adoptC, depth]) ?_
  have hp := jacB_prime h
  have hl := jacB_len h
  obtain ⟨n, hn⟩ : ∃ n, n = f.length := ⟨_, rfl⟩
  have c1 : n * 8 ≤ 140737488355328 := by omega
  have c2 : (n : Int) ≤ 9223372036854775807 := by omega
  have lE := expandP_len p a b f
  rw [← hn] at lE
  simp [go_sem, -map_replicate, -map_set, -map_append, -map_reverse, -map_take, -map_drop, -map_tail, -any_map, -all_map, -mapM_map, -map_map, slL, szI, ldI, zI, undL, apL, setI, rdI_get, Nat.add_one_le_iff, fillV, zeros1, zeros0, appendD, segV, lvO, goneOf, sliceD, bound, Nat.add_assoc, szL, ldL, setCs0, setCs1, setCs2, setCsA2, setCsA3, ldM, fM0, fM1, szM, zM, plM0, plM1, agM, paM, ldJ, fJ0, fJ1, fJ2, szJ, zJ, plJ0, plJ1, plJ2, agJ, paJ, ← hn, c1, c2, zerosI]
  rw [WL_loop]
  refine WL_forX (keep := [1, 2, 5]) (rs := resM Try.f186) rfl (by kernel_rfl) (fun x : Bool × List Int × List Int × Nat => match x with
      | (true, g, out, _) => mkSt [(1, (V.list (List.length (g)) (List.map (V.int .i64) (g)))), (2, .ptr 0 0 0), (5, .sl 1 0 0 n)] [some (⟨0, 1, 1, [.int .i64 p, (V.list (List.length (a)) (List.map (V.int .i64) (a))), (V.list (List.length (b)) (List.map (V.int .i64) (b)))]⟩), some (⟨0, 2, 1, out.map (V.int .i64)⟩)] (resM Try.f186)
      | (false, g, out, _) => mkSt [(1, .sl 0 0 0 g.length), (2, .ptr 1 0 0), (5, .sl 2 0 0 n)] [some (⟨0, 2, 1, g.map (V.int .i64)⟩), some (⟨0, 1, 1, [.int .i64 p, (V.list (List.length (a)) (List.map (V.int .i64) (a))), (V.list (List.length (b)) (List.map (V.int .i64) (b)))]⟩), some (⟨0, 2, 1, out.map (V.int .i64)⟩)] (resM Try.f186))
    (fun x => fine p x.2.1 ∧ x.2.1.length ≤ x.2.2.2 ∧ x.2.2.2 ≤ n ∧ x.2.2.1.length = n ∧ exF p a b x.2.2.2 x.2.1 x.2.2.1 = expandP p a b f) (fun x => x.2.2.2) ?_ (true, f, List.replicate n 0, n) _ ?_ rfl ?_
  · rintro ⟨fl, g, out, m⟩ ⟨g1, g2, g3, g4, g5⟩ next
    simp only at g1 g2 g3 g4 g5
    rcases hg : g with _ | ⟨y, ys⟩
    · subst hg
      rw [exF_nil] at g5
      subst g5
      cases fl
      all_goals
        dsimp only
        simp [go_sem, -map_replicate, -map_set, -map_append, -map_reverse, -map_take, -map_drop, -map_tail, -any_map, -all_map, -mapM_map, -map_map, slL, szI, ldI, zI, undL, apL, setI, rdI_get, Nat.add_one_le_iff, fillV, zeros1, zeros0, appendD, segV, lvO, goneOf, sliceD, bound, Nat.add_assoc, szL, ldL, setCs0, setCs1, setCs2, setCsA2, setCsA3, ldM, fM0, fM1, szM, zM, plM0, plM1, agM, paM, ldJ, fJ0, fJ1, fJ2, szJ, zJ, plJ0, plJ1, plJ2, agJ, paJ]
        simp [mvcgen_simp, -map_replicate, -map_set, -map_append, -map_reverse, -map_take, -map_drop, -map_tail, -any_map, -all_map, -mapM_map, -map_map, Try.f186, lE]
    · obtain ⟨k, hk⟩ : ∃ k, g.length = k + 1 := ⟨ys.length, by rw [hg]; rfl⟩
      rw [← hg]
      have hne : ¬ g = [] := by rw [hg]; simp
      have hpos : 0 < g.length := by omega
      obtain ⟨m, rfl⟩ : ∃ j, m = j + 1 := ⟨m - 1, by omega⟩
      rw [exF, if_neg (by omega), hk, Nat.add_sub_cancel] at g5
      have dn := down hp a b hk
      have d0 : IntKind.i64.wrap ((g.length : Int) - 1) = (k : Int) := by rw [IntWalk.i64_in _ (by omega)]; omega
      have w4 : IntKind.i64.wrap (k : Int) = (k : Int) := IntWalk.i64_in _ (by omega)
      have hpo := run_l03Poly p a b k h (by omega)
      have rk := g1 k
      have w1 : IntKind.i64.wrap (-(rdI g k)) = -(rdI g k) := IntWalk.i64_in _ (by omega)
      have d1 := up (run_l01Mod p (-(rdI g k)) hp)
      have h2 := run_l01Add p ((-(rdI g k)) % p) g (pl p a b k).1 hp g1 (pl_fine hp a b k).1 (mod_small hp _) (by omega) (by have := (pl_le p a b k).1; omega)
      have f2 := addP_fine hp g1 (g := (pl p a b k).1) ((-(rdI g k)) % p)
      have kg : k < g.length := by omega
      have kgi : (k : Int) < g.length := by omega
      have ko : k < out.length := by omega
      have kn : k < n := by omega
      have kni : (k : Int) < n := by omega
      have ka : k < a.length + 1 := by omega
      have kai : (k : Int) < (a.length : Int) + 1 := by omega
      have ro : rdI (out.set k (rdI g k)) k = rdI g k := by rw [rdI_set ko, if_pos rfl]
      have so : (out.set k (rdI g k)).length = n := by simp [g4]
      cases fl
      all_goals
        dsimp only at next ⊢
        simp [go_sem, -map_replicate, -map_set, -map_append, -map_reverse, -map_take, -map_drop, -map_tail, -any_map, -all_map, -mapM_map, -map_map, slL, szI, ldI, zI, undL, apL, setI, rdI_get, Nat.add_one_le_iff, fillV, zeros1, zeros0, appendD, segV, lvO, goneOf, sliceD, bound, Nat.add_assoc, szL, ldL, setCs0, setCs1, setCs2, setCsA2, setCsA3, ldM, fM0, fM1, szM, zM, plM0, plM1, agM, paM, ldJ, fJ0, fJ1, fJ2, szJ, zJ, plJ0, plJ1, plJ2, agJ, paJ, hne, hpos, d0, w4, hpo, convD, undI64, kg, kgi, ko, kn, kni, ka, kai, g4, w1, d1, h2, ro, so, prow_get, prow_len, slR, LV, setCs1, setCs0]
        repeat refine ⟨by kernel_rfl, by kernel_rfl, ?_⟩
        refine next (false, addP p g (pl p a b k).1 ((-(rdI g k)) % p), out.set k (rdI g k), m) _ ⟨f2, Nat.le_trans dn (show k ≤ m by omega), Nat.le_of_succ_le g3, so, g5⟩ (Nat.lt_succ_self m) rfl ?_
        (refine canon_mk ?_; simp [method_specs_simp, ordIds_app, ordRen_app, ordIds_app2, ordRen_app2, -map_replicate, -map_set, -map_append, -map_reverse, -map_take, -map_drop, -map_tail, -map_map])
  · exact ⟨hf, by simp [hn], Nat.le_refl _, by simp, by simp only [expandP, hn]⟩
  · (refine canon_mk ?_; simp [method_specs_simp, ordIds_app, ordRen_app, ordIds_app2, ordRen_app2, -map_replicate, -map_set, -map_append, -map_reverse, -map_take, -map_drop, -map_tail, -map_map, ← hn])
end Go.Proofs.Ytabnganndcmcnaa.Ev
