/- StepOfJacobi: both texts and the law. Conditions: none. -/
/- Data after a step are data again. Conditions: none. -/
import Derived.Test.YtacfkfdnncgjcaaFnBA
set_option linter.unusedSimpArgs false
set_option linter.unusedVariables false
namespace Go.Proofs.Ytacfkfdnncgjcaa.Ev
open Go Go.Proofs
open List (map_replicate map_set map_append map_reverse map_take map_drop map_tail any_map all_map mapM_map map_map)
set_option maxRecDepth 4000
set_option maxHeartbeats 4000000

/-- The first place where a test holds. -/
def fz (f : Nat → Bool) : Nat → Nat
  | 0 => 0
  | n + 1 => if fz f n < n then fz f n else if f n then n else n + 1
theorem fz_spec {f : Nat → Bool} : ∀ {n k : Nat}, (∀ j, j < k → f j = false) → k ≤ n → (k = n ∨ f k = true) → fz f n = k
  | 0, k, _, h, _ => by rw [fz]; omega
  | n + 1, k, h1, h2, h3 => by
    rw [fz]
    by_cases c : k < n
    · rw [fz_spec (n := n) h1 (by omega) (h3.elim (fun h => absurd h (by omega)) Or.inr), if_pos c]
    · rw [fz_spec (n := n) (k := n) (fun j hj => h1 j (by omega)) (Nat.le_refl _) (.inl rfl), if_neg (by omega)]
      by_cases c2 : k = n
      · subst c2
        rcases h3 with h | h
        · omega
        · rw [if_pos h]
      · have : k = n + 1 := by omega
        subst this
        rw [h1 n (by omega)]; simp
/-- The numbers q and e of a step. -/
def stp (p c : Int) (a b : List Int) : Nat → Int × Int
  | 0 => ((rdI a 0 - c - 0) % p, 0)
  | k + 1 => ((rdI a (k + 1) - c - divP p (rdI b (k + 1)) (stp p c a b k).1) % p, divP p (rdI b (k + 1)) (stp p c a b k).1)
def stA (p c : Int) (a b : List Int) (k : Nat) : Int := ((stp p c a b k).1 + (stp p c a b (k + 1)).2 + c) % p
def stB (p c : Int) (a b : List Int) (k : Nat) : Int := if k = 0 then rdI b 0 * (stp p c a b 0).1 % p else (stp p c a b k).1 * (stp p c a b k).2 % p
def stZ (p c : Int) (a b : List Int) (k : Nat) : Bool := decide ((stp p c a b k).1 = 0)
def stM (p c : Int) (a b : List Int) : Nat := fz (stZ p c a b) (a.length - 1)
def stOk (p c : Int) (a b : List Int) : Bool := decide (2 ≤ a.length) && decide (stM p c a b = a.length - 1)
theorem stp_range {p : Int} (hp : 2 ≤ p ∧ p ≤ 10007) (c : Int) (a b : List Int) : ∀ k, (0 ≤ (stp p c a b k).1 ∧ (stp p c a b k).1 < p) ∧ 0 ≤ (stp p c a b k).2 ∧ (stp p c a b k).2 < p
  | 0 => ⟨mod_small hp _, by show 0 ≤ (0 : Int) ∧ (0 : Int) < p; omega⟩
  | k + 1 => ⟨mod_small hp _, divP_range hp _ _⟩
theorem stM_le (p c : Int) (a b : List Int) : stM p c a b ≤ a.length - 1 := by
  unfold stM
  generalize a.length - 1 = n
  induction n with
  | zero => exact Nat.le_refl _
  | succ n ih => rw [fz]; (repeat' split) <;> omega
def stI (p c : Int) (a b : List Int) : Int × List Int × List Int × Bool := if stOk p c a b then (p, tab (a.length - 1) (stA p c a b), tab (a.length - 1) (stB p c a b), true) else (0, [], [], false)
theorem run_step (p : Int) (a b : List Int) (c : Int) (h : jacB p a b = true) (hc : 0 ≤ c ∧ c < p) :
    runv E1 70 [(V.agg [V.int .i64 (p), (V.list (List.length (a)) (List.map (V.int .i64) (a))), (V.list (List.length (b)) (List.map (V.int .i64) (b)))]), .int .i64 c] = some ⟨true, .tup [(V.agg [V.int .i64 ((stI p c a b).1), (V.uniq 1 (List.length ((stI p c a b).2.1)) (List.map (V.int .i64) ((stI p c a b).2.1))), (V.uniq 1 (List.length ((stI p c a b).2.2.1)) (List.map (V.int .i64) ((stI p c a b).2.2.1)))]), .bool (stI p c a b).2.2.2], [.agg [.undef, .undef, .undef], .undef]⟩ := by
  have cdk : codeOk Try.f70.ntmps (Try.f70.body.getD .skip) = true := by kernel_rfl
  refine run_of_WLr (fn := Try.f70) rfl Try.func70 rfl ⟨by simp [Try.ntmps70], by simp [wideA, ints], cdk, by simp [Try.f70]⟩ rfl (by simp [rebOk, noId, adoptT, adoptA, adoptL, adoptC, depth]) ?_
  have hp := jacB_prime h
  have hl := jacB_len h
  have g3 := up (run_Jfield p a b)
  have g4 := up (run_Jsize p a b)
  by_cases c2 : a.length < 2
  · have c2i : (a.length : Int) < 2 := by omega
    have hps : stI p c a b = (0, [], [], false) := by
      have : stOk p c a b = false := by simp [stOk]; omega
      simp only [stI, this]; rfl
    simp [go_sem, -map_replicate, -map_set, -map_append, -map_reverse, -map_take, -map_drop, -map_tail, -any_map, -all_map, -mapM_map, -map_map, slL, szI, ldI, zI, undL, apL, setI, rdI_get, Nat.add_one_le_iff, fillV, zeros1, zeros0, appendD, segV, lvO, goneOf, sliceD, bound, Nat.add_assoc, szL, ldL, setCs0, setCs1, setCs2, setCsA2, setCsA3, ldM, fM0, fM1, szM, zM, plM0, plM1, agM, paM, ldJ, fJ0, fJ1, fJ2, szJ, zJ, plJ0, plJ1, plJ2, agJ, paJ, c2i, g3, g4, fillV]
    repeat refine ⟨by kernel_rfl, by kernel_rfl, ?_⟩
    simp [mvcgen_simp, -map_replicate, -map_set, -map_append, -map_reverse, -map_take, -map_drop, -map_tail, -any_map, -all_map, -mapM_map, -map_map, Try.f70, hps, szL, ldL, setCs0, setCs1, setCs2, setCsA2, setCsA3, ldM, fM0, fM1, szM, zM, plM0, plM1, agM, paM, ldJ, fJ0, fJ1, fJ2, szJ, zJ, plJ0, plJ1, plJ2, agJ, paJ, ctJ, loadD, viewN]
  have c2i : ¬ (a.length : Int) < 2 := by omega
  have ha0 : 0 < a.length := by omega
  have wn : IntKind.i64.wrap ((a.length : Int) - 1) = ((a.length - 1 : Nat) : Int) := by rw [IntWalk.i64_in _ (by omega)]; omega
  simp [go_sem, -map_replicate, -map_set, -map_append, -map_reverse, -map_take, -map_drop, -map_tail, -any_map, -all_map, -mapM_map, -map_map, slL, szI, ldI, zI, undL, apL, setI, rdI_get, Nat.add_one_le_iff, fillV, zeros1, zeros0, appendD, segV, lvO, goneOf, sliceD, bound, Nat.add_assoc, szL, ldL, setCs0, setCs1, setCs2, setCsA2, setCsA3, ldM, fM0, fM1, szM, zM, plM0, plM1, agM, paM, ldJ, fJ0, fJ1, fJ2, szJ, zJ, plJ0, plJ1, plJ2, agJ, paJ, c2i, ha0, g3, g4, wn, fillV]
  repeat refine ⟨by kernel_rfl, by kernel_rfl, ?_⟩
  rw [WL_loop]
  refine WL_forP (keep := [1, 2, 4, 6, 8, 9, 24, 25]) (rs := resM Try.f70) rfl (by kernel_rfl) (fun x => match x with | 0 => mkSt [(1, .int .i64 c), (2, .ptr 0 0 0), (4, .ptr 1 0 0), (6, .int .i64 p), (8, .ptr 2 0 0), (9, .int .i64 0), (24, .int .i64 ((a.length - 1 : Nat) : Int)), (25, .int .i64 0)] [some (⟨0, 1, 1, [.int .i64 p, (V.list (List.length (a)) (List.map (V.int .i64) (a))), (V.list (List.length (b)) (List.map (V.int .i64) (b)))]⟩), some (⟨0, 1, 1, [.int .i64 0, .nils, .nils]⟩), some (⟨0, 1, 1, [.int .i64 p, .nils, .nils]⟩)] (resM Try.f70) | k + 1 => mkSt [(1, .int .i64 c), (2, .ptr 0 0 0), (4, .ptr 1 0 0), (6, .int .i64 p), (8, .ptr 2 0 0), (9, .int .i64 (stp p c a b (k + 1)).2), (24, .int .i64 ((a.length - 1 : Nat) : Int)), (25, .int .i64 ((k : Int) + 1))] [some (⟨0, 1, 1, [.int .i64 p, (V.list (List.length (a)) (List.map (V.int .i64) (a))), (V.list (List.length (b)) (List.map (V.int .i64) (b)))]⟩), some (⟨0, 1, 1, [.int .i64 0, .nils, .nils]⟩), some (⟨0, 1, 1, [.int .i64 p, .sl 3 0 0 (k + 1), .sl 4 0 0 (k + 1)]⟩), some (⟨0, 2, 1, (tab (k + 1) (stA p c a b)).map (V.int .i64)⟩), some (⟨0, 2, 1, (tab (k + 1) (stB p c a b)).map (V.int .i64)⟩)] (resM Try.f70)) (a.length - 1) (fun k => ∀ j, j < k → stZ p c a b j = false) ?_ ?_ 0 _ (by omega) (by omega) rfl ?_
  · intro k hk hP next
    rcases k with _ | k
    · dsimp only at next ⊢
      obtain ⟨r1, r2⟩ := stp_range hp c a b 0
      obtain ⟨r3, r4⟩ := stp_range hp c a b 1
      have ra := jacB_a h (show 0 < a.length by omega)
      have rb := jacB_b h (show 1 < a.length by omega)
      have rb0 := jacB_b h ha0
      have ka : 0 < a.length := by omega
      have kb : 1 < b.length := by omega
      have kb0 : 0 < b.length := by omega
      have kai : (0 : Int) < (a.length : Int) := by omega
      have kbi : (1 : Int) < (b.length : Int) := by omega
      have kni : (0 : Int) < ((a.length - 1 : Nat) : Int) := by omega
      have kn : 0 < a.length - 1 := hk
      have kp : (0 : Int) ≤ (0 : Int) := by omega
      have kq : (0 : Int) ≤ (1 : Int) := by omega
      have kz : True := trivial
      have kt : ((1 : Int)).toNat = 1 := by omega
      have hE : (stp p c a b 1).2 = divP p (rdI b 1) (stp p c a b 0).1 := rfl
      have hQ : (stp p c a b 0).1 = (rdI a 0 - c - (stp p c a b 0).2) % p := rfl
      have pb := mul_small hp (show 0 ≤ rdI b 0 ∧ rdI b 0 < p by omega) r1
      have h5 := up (run_div p (rdI b 1) (stp p c a b 0).1 hp (by omega) (by omega))
      rw [← hE] at h5
      have vA := up (run_mod p ((stp p c a b 0).1 + (stp p c a b 1).2 + c) hp)
      rw [show ((stp p c a b 0).1 + (stp p c a b 1).2 + c) % p = stA p c a b 0 from rfl] at vA
      have w2 : IntKind.i64.wrap ((stp p c a b 0).1 + (stp p c a b 1).2) = (stp p c a b 0).1 + (stp p c a b 1).2 := IntWalk.i64_in _ (by omega)
      have w3 : IntKind.i64.wrap ((stp p c a b 0).1 + (stp p c a b 1).2 + c) = (stp p c a b 0).1 + (stp p c a b 1).2 + c := IntWalk.i64_in _ (by omega)
      have w4 : IntKind.i64.wrap (rdI b 0 * (stp p c a b 0).1) = rdI b 0 * (stp p c a b 0).1 := IntWalk.i64_in _ (by omega)
      have vB := up (run_mul p (rdI b 0) ((stp p c a b 0).1) hp w4)
      rw [show rdI b 0 * (stp p c a b 0).1 % p = stB p c a b 0 from rfl] at vB
      have pz := mul_small hp r1 r2
      have vC := up (run_mul p (stp p c a b 0).1 (stp p c a b 0).2 hp (IntWalk.i64_in _ (by omega)))
      have w5 : IntKind.i64.wrap (1 : Int) = (1 : Int) := IntWalk.i64_in _ (by omega)
      have w6 : IntKind.i64.wrap (rdI a 0 - c) = rdI a 0 - c := IntWalk.i64_in _ (by omega)
      have w7 : IntKind.i64.wrap (rdI a 0 - c - (stp p c a b 0).2) = rdI a 0 - c - (stp p c a b 0).2 := IntWalk.i64_in _ (by omega)
      have h6 := up (run_mod p (rdI a 0 - c - (stp p c a b 0).2) hp)
      rw [← hQ] at h6
      have tA : tab 1 (stA p c a b) = tab 0 (stA p c a b) ++ [stA p c a b 0] := tab_succ _ _
      have tB : tab 1 (stB p c a b) = tab 0 (stB p c a b) ++ [stB p c a b 0] := tab_succ _ _
      have lA := tab_len 0 (stA p c a b)
      have lB := tab_len 0 (stB p c a b)
      have c3 : 1 * 8 ≤ 140737488355328 := by omega
      try simp only [show (stp p c a b 0).2 = 0 from rfl, Int.sub_zero] at w7 h6 vC
      by_cases hz : (stp p c a b 0).1 = 0
      · have hps : stI p c a b = (0, [], [], false) := by
          have eM : stM p c a b = 0 := fz_spec hP (by omega) (.inr (by simp [stZ, hz]))
          have eO : stOk p c a b = false := by simp [stOk, eM]; omega
          simp only [stI, eO]; rfl
        rw [hz] at h6
        simp [go_sem, -map_replicate, -map_set, -map_append, -map_reverse, -map_take, -map_drop, -map_tail, -any_map, -all_map, -mapM_map, -map_map, slL, szI, ldI, zI, undL, apL, setI, rdI_get, Nat.add_one_le_iff, fillV, zeros1, zeros0, appendD, segV, lvO, goneOf, sliceD, bound, Nat.add_assoc, szL, ldL, setCs0, setCs1, setCs2, setCsA2, setCsA3, ldM, fM0, fM1, szM, zM, plM0, plM1, agM, paM, ldJ, fJ0, fJ1, fJ2, szJ, zJ, plJ0, plJ1, plJ2, agJ, paJ, ka, kai, kni, kn, kp, kt, w5, w6, w7, h6, hz, fillV]
        repeat refine ⟨by kernel_rfl, by kernel_rfl, ?_⟩
        simp [mvcgen_simp, -map_replicate, -map_set, -map_append, -map_reverse, -map_take, -map_drop, -map_tail, -any_map, -all_map, -mapM_map, -map_map, Try.f70, hps, szL, ldL, setCs0, setCs1, setCs2, setCsA2, setCsA3, ldM, fM0, fM1, szM, zM, plM0, plM1, agM, paM, ldJ, fJ0, fJ1, fJ2, szJ, zJ, plJ0, plJ1, plJ2, agJ, paJ, ctJ, loadD, viewN]
      have hzf : stZ p c a b 0 = false := by simp [stZ, hz]
      generalize hA : tab 0 (stA p c a b) = TA at *
      obtain rfl : TA = [] := hA.symm
      generalize hB : tab 0 (stB p c a b) = TB at *
      obtain rfl : TB = [] := hB.symm
      generalize stA p c a b 0 = xA at *
      generalize stB p c a b 0 = xB at *
      generalize hQ0 : (stp p c a b 0).1 = Q0 at *
      simp [go_sem, -map_replicate, -map_set, -map_append, -map_reverse, -map_take, -map_drop, -map_tail, -any_map, -all_map, -mapM_map, -map_map, slL, szI, ldI, zI, undL, apL, setI, rdI_get, Nat.add_one_le_iff, fillV, zeros1, zeros0, appendD, segV, lvO, goneOf, sliceD, bound, Nat.add_assoc, szL, ldL, setCs0, setCs1, setCs2, setCsA2, setCsA3, ldM, fM0, fM1, szM, zM, plM0, plM1, agM, paM, ldJ, fJ0, fJ1, fJ2, szJ, zJ, plJ0, plJ1, plJ2, agJ, paJ, kz, ka, kb, kb0, kai, kbi, kni, kn, kp, kq, kt, vA, vB, vC, w2, w3, w5, w6, w7, h5, h6, lA, lB, c3, hz]
      repeat refine ⟨by kernel_rfl, by kernel_rfl, ?_⟩
      refine next _ (fun j hj => ?_) rfl ?_
      · by_cases hj' : j = 0
        · rw [hj']; exact hzf
        · exact hP j (by omega)
      · (refine canon_mk ?_; simp [method_specs_simp, ordIds_app, ordRen_app, ordIds_app2, ordRen_app2, -map_replicate, -map_set, -map_append, -map_reverse, -map_take, -map_drop, -map_tail, -map_map, tA, tB])
    · dsimp only at next ⊢
      obtain ⟨r1, r2⟩ := stp_range hp c a b (k + 1)
      obtain ⟨r3, r4⟩ := stp_range hp c a b (k + 2)
      have ra := jacB_a h (show (k + 1) < a.length by omega)
      have rb := jacB_b h (show (k + 2) < a.length by omega)
      have rb0 := jacB_b h ha0
      have ka : (k + 1) < a.length := by omega
      have kb : (k + 2) < b.length := by omega
      have kb0 : 0 < b.length := by omega
      have kai : ((k : Int) + 1) < (a.length : Int) := by omega
      have kbi : ((k : Int) + 1 + 1) < (b.length : Int) := by omega
      have kni : ((k : Int) + 1) < ((a.length - 1 : Nat) : Int) := by omega
      have kn : (k + 1) < a.length - 1 := hk
      have kp : (0 : Int) ≤ ((k : Int) + 1) := by omega
      have kq : (0 : Int) ≤ ((k : Int) + 1 + 1) := by omega
      have kz : ¬ (k : Int) + 1 = 0 := by omega
      have kt : (((k : Int) + 1 + 1)).toNat = (k + 2) := by omega
      have hE : (stp p c a b (k + 2)).2 = divP p (rdI b (k + 2)) (stp p c a b (k + 1)).1 := rfl
      have hQ : (stp p c a b (k + 1)).1 = (rdI a (k + 1) - c - (stp p c a b (k + 1)).2) % p := rfl
      have pb := mul_small hp r1 r2
      have h5 := up (run_div p (rdI b (k + 2)) (stp p c a b (k + 1)).1 hp (by omega) (by omega))
      rw [← hE] at h5
      have vA := up (run_mod p ((stp p c a b (k + 1)).1 + (stp p c a b (k + 2)).2 + c) hp)
      rw [show ((stp p c a b (k + 1)).1 + (stp p c a b (k + 2)).2 + c) % p = stA p c a b (k + 1) from rfl] at vA
      have w2 : IntKind.i64.wrap ((stp p c a b (k + 1)).1 + (stp p c a b (k + 2)).2) = (stp p c a b (k + 1)).1 + (stp p c a b (k + 2)).2 := IntWalk.i64_in _ (by omega)
      have w3 : IntKind.i64.wrap ((stp p c a b (k + 1)).1 + (stp p c a b (k + 2)).2 + c) = (stp p c a b (k + 1)).1 + (stp p c a b (k + 2)).2 + c := IntWalk.i64_in _ (by omega)
      have w4 : IntKind.i64.wrap ((stp p c a b (k + 1)).1 * (stp p c a b (k + 1)).2) = (stp p c a b (k + 1)).1 * (stp p c a b (k + 1)).2 := IntWalk.i64_in _ (by omega)
      have vB := up (run_mul p ((stp p c a b (k + 1)).1) ((stp p c a b (k + 1)).2) hp w4)
      rw [show (stp p c a b (k + 1)).1 * (stp p c a b (k + 1)).2 % p = stB p c a b (k + 1) from rfl] at vB
      have pz := mul_small hp r1 r2
      have vC := up (run_mul p (stp p c a b (k + 1)).1 (stp p c a b (k + 1)).2 hp (IntWalk.i64_in _ (by omega)))
      have w5 : IntKind.i64.wrap ((k : Int) + 1 + 1) = ((k : Int) + 1 + 1) := IntWalk.i64_in _ (by omega)
      have w6 : IntKind.i64.wrap (rdI a (k + 1) - c) = rdI a (k + 1) - c := IntWalk.i64_in _ (by omega)
      have w7 : IntKind.i64.wrap (rdI a (k + 1) - c - (stp p c a b (k + 1)).2) = rdI a (k + 1) - c - (stp p c a b (k + 1)).2 := IntWalk.i64_in _ (by omega)
      have h6 := up (run_mod p (rdI a (k + 1) - c - (stp p c a b (k + 1)).2) hp)
      rw [← hQ] at h6
      have tA : tab (k + 2) (stA p c a b) = tab (k + 1) (stA p c a b) ++ [stA p c a b (k + 1)] := tab_succ _ _
      have tB : tab (k + 2) (stB p c a b) = tab (k + 1) (stB p c a b) ++ [stB p c a b (k + 1)] := tab_succ _ _
      have lA := tab_len (k + 1) (stA p c a b)
      have lB := tab_len (k + 1) (stB p c a b)
      have c3 : (k + 2) * 8 ≤ 140737488355328 := by omega
      try simp only [show (stp p c a b 0).2 = 0 from rfl, Int.sub_zero] at w7 h6 vC
      by_cases hz : (stp p c a b (k + 1)).1 = 0
      · have hps : stI p c a b = (0, [], [], false) := by
          have eM : stM p c a b = (k + 1) := fz_spec hP (by omega) (.inr (by simp [stZ, hz]))
          have eO : stOk p c a b = false := by simp [stOk, eM]; omega
          simp only [stI, eO]; rfl
        rw [hz] at h6
        simp [go_sem, -map_replicate, -map_set, -map_append, -map_reverse, -map_take, -map_drop, -map_tail, -any_map, -all_map, -mapM_map, -map_map, slL, szI, ldI, zI, undL, apL, setI, rdI_get, Nat.add_one_le_iff, fillV, zeros1, zeros0, appendD, segV, lvO, goneOf, sliceD, bound, Nat.add_assoc, szL, ldL, setCs0, setCs1, setCs2, setCsA2, setCsA3, ldM, fM0, fM1, szM, zM, plM0, plM1, agM, paM, ldJ, fJ0, fJ1, fJ2, szJ, zJ, plJ0, plJ1, plJ2, agJ, paJ, ka, kai, kni, kn, kp, kt, w5, w6, w7, h6, hz, fillV]
        repeat refine ⟨by kernel_rfl, by kernel_rfl, ?_⟩
        simp [mvcgen_simp, -map_replicate, -map_set, -map_append, -map_reverse, -map_take, -map_drop, -map_tail, -any_map, -all_map, -mapM_map, -map_map, Try.f70, hps, szL, ldL, setCs0, setCs1, setCs2, setCsA2, setCsA3, ldM, fM0, fM1, szM, zM, plM0, plM1, agM, paM, ldJ, fJ0, fJ1, fJ2, szJ, zJ, plJ0, plJ1, plJ2, agJ, paJ, ctJ, loadD, viewN]
      have hzf : stZ p c a b (k + 1) = false := by simp [stZ, hz]
      generalize hA : tab (k + 1) (stA p c a b) = TA at *
      skip
      generalize hB : tab (k + 1) (stB p c a b) = TB at *
      skip
      generalize stA p c a b (k + 1) = xA at *
      generalize stB p c a b (k + 1) = xB at *
      generalize hQ0 : (stp p c a b (k + 1)).1 = Q0 at *
      simp [go_sem, -map_replicate, -map_set, -map_append, -map_reverse, -map_take, -map_drop, -map_tail, -any_map, -all_map, -mapM_map, -map_map, slL, szI, ldI, zI, undL, apL, setI, rdI_get, Nat.add_one_le_iff, fillV, zeros1, zeros0, appendD, segV, lvO, goneOf, sliceD, bound, Nat.add_assoc, szL, ldL, setCs0, setCs1, setCs2, setCsA2, setCsA3, ldM, fM0, fM1, szM, zM, plM0, plM1, agM, paM, ldJ, fJ0, fJ1, fJ2, szJ, zJ, plJ0, plJ1, plJ2, agJ, paJ, kz, ka, kb, kb0, kai, kbi, kni, kn, kp, kq, kt, vA, vB, vC, w2, w3, w5, w6, w7, h5, h6, lA, lB, c3, hz]
      repeat refine ⟨by kernel_rfl, by kernel_rfl, ?_⟩
      refine next _ (fun j hj => ?_) rfl ?_
      · by_cases hj' : j = (k + 1)
        · rw [hj']; exact hzf
        · exact hP j (by omega)
      · (refine canon_mk ?_; simp [method_specs_simp, ordIds_app, ordRen_app, ordIds_app2, ordRen_app2, -map_replicate, -map_set, -map_append, -map_reverse, -map_take, -map_drop, -map_tail, -map_map, tA, tB])
  · intro hP
    have hps : stI p c a b = (p, tab (a.length - 1) (stA p c a b), tab (a.length - 1) (stB p c a b), true) := by
      have eM : stM p c a b = a.length - 1 := fz_spec hP (Nat.le_refl _) (.inl rfl)
      have eO : stOk p c a b = true := by simp [stOk, eM]; omega
      simp only [stI, eO]; rfl
    have lA := tab_len (a.length - 1) (stA p c a b)
    have lB := tab_len (a.length - 1) (stB p c a b)
    rcases hn : a.length - 1 with _ | k
    · omega
    · rw [hn] at lA lB hps
      dsimp only
      simp [go_sem, -map_replicate, -map_set, -map_append, -map_reverse, -map_take, -map_drop, -map_tail, -any_map, -all_map, -mapM_map, -map_map, slL, szI, ldI, zI, undL, apL, setI, rdI_get, Nat.add_one_le_iff, fillV, zeros1, zeros0, appendD, segV, lvO, goneOf, sliceD, bound, Nat.add_assoc, szL, ldL, setCs0, setCs1, setCs2, setCsA2, setCsA3, ldM, fM0, fM1, szM, zM, plM0, plM1, agM, paM, ldJ, fJ0, fJ1, fJ2, szJ, zJ, plJ0, plJ1, plJ2, agJ, paJ]
      simp [mvcgen_simp, -map_replicate, -map_set, -map_append, -map_reverse, -map_take, -map_drop, -map_tail, -any_map, -all_map, -mapM_map, -map_map, Try.f70, hps, lA, lB, szL, ldL, setCs0, setCs1, setCs2, setCsA2, setCsA3, ldM, fM0, fM1, szM, zM, plM0, plM1, agM, paM, ldJ, fJ0, fJ1, fJ2, szJ, zJ, plJ0, plJ1, plJ2, agJ, paJ, ctJ, loadD, viewN]
  · (refine canon_mk ?_; simp [method_specs_simp, ordIds_app, ordRen_app, ordIds_app2, ordRen_app2, -map_replicate, -map_set, -map_append, -map_reverse, -map_take, -map_drop, -map_tail, -map_map])
def stepJ (p : Int) (a b : List Int) (c : Int) : Int × List Int × List Int × Int :=
  if jacB p a b then (if hasB p c then (if stOk p c a b then (p, tab (a.length - 1) (stA p c a b), tab (a.length - 1) (stB p c a b), 0) else (0, [], [], 5)) else (0, [], [], 2)) else (0, [], [], 1)
theorem stepJ_len (p : Int) (a b : List Int) (c : Int) (ha : a.length ≤ 1048576) (hb : b.length ≤ 1048576) : (stepJ p a b c).2.1.length ≤ 1048576 ∧ (stepJ p a b c).2.2.1.length ≤ 1048576 := by
  unfold stepJ
  (repeat' split) <;> simp [tab_len] <;> omega
theorem run_implStepOfJacobi (p : Int) (a b : List Int) (c : Int) (ha : a.length ≤ 1048576) (hb : b.length ≤ 1048576) :
    runv E1 20 [(V.agg [V.int .i64 (p), (V.list (List.length (a)) (List.map (V.int .i64) (a))), (V.list (List.length (b)) (List.map (V.int .i64) (b)))]), .int .i64 c] = some ⟨true, .tup [(V.agg [V.int .i64 ((stepJ p a b c).1), (V.uniq 1 (List.length ((stepJ p a b c).2.1)) (List.map (V.int .i64) ((stepJ p a b c).2.1))), (V.uniq 1 (List.length ((stepJ p a b c).2.2.1)) (List.map (V.int .i64) ((stepJ p a b c).2.2.1)))]), .int .i64 (stepJ p a b c).2.2.2], [.agg [.undef, .undef, .undef], .undef]⟩ := by
  have cdk : codeOk Try.f20.ntmps (Try.f20.body.getD .skip) = true := by kernel_rfl
  refine run_of_WLr (fn := Try.f20) rfl Try.func20 rfl ⟨by simp [Try.ntmps20], by simp [wideA, ints], cdk, by simp [Try.f20]⟩ rfl (by simp [rebOk, noId, adoptT, adoptA, adoptL, adoptC, depth]) ?_
  have g1 := up (run_has p c)
  have g3 := up (run_Jfield p a b)
  have h1 := up (run_jacobiCode p a b (hasB p c) (by omega) (by omega))
  cases e : jacB p a b with
  | false =>
    rw [e] at h1
    simp only [Bool.false_eq_true, if_false] at h1
    cases e1 : hasB p c <;> rw [e1] at g1 h1 <;> simp [go_sem, -map_replicate, -map_set, -map_append, -map_reverse, -map_take, -map_drop, -map_tail, -any_map, -all_map, -mapM_map, -map_map, slL, szI, ldI, zI, undL, apL, setI, rdI_get, Nat.add_one_le_iff, fillV, zeros1, zeros0, appendD, segV, lvO, goneOf, sliceD, bound, Nat.add_assoc, szL, ldL, setCs0, setCs1, setCs2, setCsA2, setCsA3, ldM, fM0, fM1, szM, zM, plM0, plM1, agM, paM, ldJ, fJ0, fJ1, fJ2, szJ, zJ, plJ0, plJ1, plJ2, agJ, paJ, g1, g3, h1, fillV] <;> (repeat refine ⟨by kernel_rfl, by kernel_rfl, ?_⟩) <;> simp [mvcgen_simp, -map_replicate, -map_set, -map_append, -map_reverse, -map_take, -map_drop, -map_tail, -any_map, -all_map, -mapM_map, -map_map, Try.f20, stepJ, e, szL, ldL, setCs0, setCs1, setCs2, setCsA2, setCsA3, ldM, fM0, fM1, szM, zM, plM0, plM1, agM, paM, ldJ, fJ0, fJ1, fJ2, szJ, zJ, plJ0, plJ1, plJ2, agJ, paJ, ctJ, loadD, viewN]
  | true =>
    rw [e] at h1
    cases e1 : hasB p c with
    | false =>
      rw [e1] at g1 h1
      simp [go_sem, -map_replicate, -map_set, -map_append, -map_reverse, -map_take, -map_drop, -map_tail, -any_map, -all_map, -mapM_map, -map_map, slL, szI, ldI, zI, undL, apL, setI, rdI_get, Nat.add_one_le_iff, fillV, zeros1, zeros0, appendD, segV, lvO, goneOf, sliceD, bound, Nat.add_assoc, szL, ldL, setCs0, setCs1, setCs2, setCsA2, setCsA3, ldM, fM0, fM1, szM, zM, plM0, plM1, agM, paM, ldJ, fJ0, fJ1, fJ2, szJ, zJ, plJ0, plJ1, plJ2, agJ, paJ, g1, g3, h1, fillV]
      repeat refine ⟨by kernel_rfl, by kernel_rfl, ?_⟩
      simp [mvcgen_simp, -map_replicate, -map_set, -map_append, -map_reverse, -map_take, -map_drop, -map_tail, -any_map, -all_map, -mapM_map, -map_map, Try.f20, stepJ, e, e1, szL, ldL, setCs0, setCs1, setCs2, setCsA2, setCsA3, ldM, fM0, fM1, szM, zM, plM0, plM1, agM, paM, ldJ, fJ0, fJ1, fJ2, szJ, zJ, plJ0, plJ1, plJ2, agJ, paJ, ctJ, loadD, viewN]
    | true =>
      rw [e1] at g1 h1
      have h2 := run_step p a b c e (hasB_range e1)
      have lA := tab_len (a.length - 1) (stA p c a b)
      have lB := tab_len (a.length - 1) (stB p c a b)
      cases e2 : stOk p c a b with
      | false =>
        rw [show stI p c a b = (0, [], [], false) by simp only [stI, e2]; rfl] at h2
        simp [go_sem, -map_replicate, -map_set, -map_append, -map_reverse, -map_take, -map_drop, -map_tail, -any_map, -all_map, -mapM_map, -map_map, slL, szI, ldI, zI, undL, apL, setI, rdI_get, Nat.add_one_le_iff, fillV, zeros1, zeros0, appendD, segV, lvO, goneOf, sliceD, bound, Nat.add_assoc, szL, ldL, setCs0, setCs1, setCs2, setCsA2, setCsA3, ldM, fM0, fM1, szM, zM, plM0, plM1, agM, paM, ldJ, fJ0, fJ1, fJ2, szJ, zJ, plJ0, plJ1, plJ2, agJ, paJ, g1, g3, h1, h2, fillV]
        repeat refine ⟨by kernel_rfl, by kernel_rfl, ?_⟩
        simp [mvcgen_simp, -map_replicate, -map_set, -map_append, -map_reverse, -map_take, -map_drop, -map_tail, -any_map, -all_map, -mapM_map, -map_map, Try.f20, stepJ, e, e1, e2, szL, ldL, setCs0, setCs1, setCs2, setCsA2, setCsA3, ldM, fM0, fM1, szM, zM, plM0, plM1, agM, paM, ldJ, fJ0, fJ1, fJ2, szJ, zJ, plJ0, plJ1, plJ2, agJ, paJ, ctJ, loadD, viewN]
      | true =>
        rw [show stI p c a b = (p, tab (a.length - 1) (stA p c a b), tab (a.length - 1) (stB p c a b), true) by simp only [stI, e2]; rfl] at h2
        simp [go_sem, -map_replicate, -map_set, -map_append, -map_reverse, -map_take, -map_drop, -map_tail, -any_map, -all_map, -mapM_map, -map_map, slL, szI, ldI, zI, undL, apL, setI, rdI_get, Nat.add_one_le_iff, fillV, zeros1, zeros0, appendD, segV, lvO, goneOf, sliceD, bound, Nat.add_assoc, szL, ldL, setCs0, setCs1, setCs2, setCsA2, setCsA3, ldM, fM0, fM1, szM, zM, plM0, plM1, agM, paM, ldJ, fJ0, fJ1, fJ2, szJ, zJ, plJ0, plJ1, plJ2, agJ, paJ, g1, g3, h1, h2, lA, lB, fillV]
        repeat refine ⟨by kernel_rfl, by kernel_rfl, ?_⟩
        simp [mvcgen_simp, -map_replicate, -map_set, -map_append, -map_reverse, -map_take, -map_drop, -map_tail, -any_map, -all_map, -mapM_map, -map_map, Try.f20, stepJ, e, e1, e2, lA, lB, szL, ldL, setCs0, setCs1, setCs2, setCsA2, setCsA3, ldM, fM0, fM1, szM, zM, plM0, plM1, agM, paM, ldJ, fJ0, fJ1, fJ2, szJ, zJ, plJ0, plJ1, plJ2, agJ, paJ, ctJ, loadD, viewN]

end Go.Proofs.Ytacfkfdnncgjcaa.Ev

set_option linter.unusedSimpArgs false
set_option linter.unusedVariables false
namespace Go.Proofs.Ytacfkfdnncgjcaa.Ev
open Go Go.Proofs
open List (map_replicate map_set map_append map_reverse map_take map_drop map_tail any_map all_map mapM_map map_map)
set_option maxRecDepth 4000
set_option maxHeartbeats 4000000

theorem noDiv_small {P : Nat} (h : noDiv (P : Int) 2 = true) (hp : P ≤ 10007) (m : Nat) (h2 : 2 ≤ m) (hm : m * m ≤ P) (hd : m ∣ P) : False := by
  have hm1 : m < 101 := by
    apply Classical.byContradiction; intro c
    have := Nat.mul_le_mul (show 101 ≤ m by omega) (show 101 ≤ m by omega)
    omega
  unfold noDiv at h
  have := List.all_eq_true.1 h m (List.mem_range.2 hm1)
  simp only [Bool.or_eq_true, decide_eq_true_eq, Bool.not_eq_true', decide_eq_false_iff_not] at this
  rcases this with (c | c) | c
  · omega
  · have e : (m : Int) * m = ((m * m : Nat) : Int) := by simp
    rw [e] at c; omega
  · apply c
    obtain ⟨e, rfl⟩ := hd
    rw [show ((m * e : Nat) : Int) = (m : Int) * e by simp]
    exact Int.mul_tmod_right ..
theorem noDiv_all {P : Nat} (h : primeB (P : Int) = true) (d : Nat) (h2 : 2 ≤ d) (hd : d ∣ P) : d = P := by
  have hp := prime_range h
  simp only [primeB, Bool.and_eq_true, decide_eq_true_eq] at h
  have hn := h.2
  obtain ⟨e, he⟩ := hd
  have e0 : e ≠ 0 := by intro c; subst c; rw [Nat.mul_zero] at he; omega
  by_cases e1 : e = 1
  · subst e1; omega
  · exfalso
    by_cases c : d ≤ e
    · exact noDiv_small hn (by omega) d h2 (by rw [he]; exact Nat.mul_le_mul_left d c) ⟨e, he⟩
    · exact noDiv_small hn (by omega) e (by omega) (by rw [he]; exact Nat.mul_le_mul_right e (by omega)) ⟨d, by rw [he, Nat.mul_comm]⟩
/-- A product of units of a prime is none of its multiples. -/
theorem prime_nz {p x y : Int} (h : primeB p = true) (hx : 0 < x ∧ x < p) (hy : 0 < y ∧ y < p) : x * y % p ≠ 0 := by
  have hp := prime_range h
  obtain ⟨P, rfl⟩ : ∃ P : Nat, p = P := ⟨p.toNat, by omega⟩
  obtain ⟨X, rfl⟩ : ∃ X : Nat, x = X := ⟨x.toNat, by omega⟩
  obtain ⟨Y, rfl⟩ : ∃ Y : Nat, y = Y := ⟨y.toNat, by omega⟩
  intro c
  have hd : P ∣ X * Y := by
    have := Int.dvd_of_emod_eq_zero c
    rw [show (X : Int) * Y = ((X * Y : Nat) : Int) by simp] at this
    exact Int.natCast_dvd_natCast.1 this
  have hg : Nat.gcd P X = 1 := by
    have g1 := Nat.gcd_dvd_left P X
    have g2 := Nat.gcd_dvd_right P X
    have g3 := Nat.le_of_dvd (by omega) g2
    have g0 : Nat.gcd P X ≠ 0 := by
      intro z; rw [z] at g2; have := Nat.eq_zero_of_zero_dvd g2; omega
    apply Classical.byContradiction; intro z
    have := noDiv_all h (Nat.gcd P X) (by omega) g1
    omega
  have : P ∣ Y := (Nat.Coprime.dvd_of_dvd_mul_left (k := P) (m := X) (n := Y) hg hd)
  have := Nat.le_of_dvd (by omega) this
  omega
theorem pow_nz {p x : Int} (h : primeB p = true) (hx : 0 < x ∧ x < p) : ∀ n : Nat, 0 < x ^ n % p
  | 0 => by
    have hp := prime_range h
    rw [Int.pow_zero, Int.emod_eq_of_lt (by omega) (by omega)]; omega
  | n + 1 => by
    have hp := prime_range h
    have ih := pow_nz h hx n
    have r := mod_small hp (x ^ n)
    have e : x ^ (n + 1) % p = x ^ n % p * x % p := by rw [Int.pow_succ, Int.mul_emod (x ^ n) x p, Int.mul_emod (x ^ n % p) x p, Int.emod_emod_of_dvd _ (Int.dvd_refl p)]
    have := prime_nz h ⟨ih, r.2⟩ hx
    have r2 := mod_small hp (x ^ n % p * x)
    rw [e]; omega
theorem divP_unit {p x y : Int} (h : primeB p = true) (hx : 0 < x ∧ x < p) (hy : 0 < y ∧ y < p) : 0 < divP p x y ∧ divP p x y < p := by
  have hp := prime_range h
  have i0 : 0 < invP p y := pow_nz h hy _
  have i1 := invP_range hp y
  have := prime_nz h hx ⟨i0, i1.2⟩
  have r := divP_range hp x y
  have : divP p x y ≠ 0 := this
  omega
theorem fz_le (f : Nat → Bool) : ∀ n, fz f n ≤ n
  | 0 => Nat.le_refl _
  | n + 1 => by rw [fz]; have := fz_le f n; (repeat' split) <;> omega
/-- Data after a step. -/
theorem step_jacB {p c : Int} {a b : List Int} (h : jacB p a b = true) (ho : stOk p c a b = true) : jacB p (tab (a.length - 1) (stA p c a b)) (tab (a.length - 1) (stB p c a b)) = true := by
  have hp := jacB_prime h
  have hl := jacB_len h
  have pr : primeB p = true := by
    cases x : primeB p
    · simp [jacB, x] at h
    · rfl
  simp only [stOk, Bool.and_eq_true, decide_eq_true_eq] at ho
  have hz : ∀ k, k < a.length - 1 → 0 < (stp p c a b k).1 ∧ (stp p c a b k).1 < p := by
    intro k hk
    have r := (stp_range hp c a b k).1
    have hne : stZ p c a b k = false := by
      have := ho.2
      unfold stM at this
      generalize hN : a.length - 1 = N at *
      clear ho hl hN
      have key : ∀ n, fz (stZ p c a b) n = n → ∀ k, k < n → stZ p c a b k = false := by
        intro n
        induction n with
        | zero => intro _ k hk; omega
        | succ n ih =>
          intro e k hk
          rw [fz] at e
          split at e
          · omega
          · split at e
            · omega
            · rename_i q1 q2
              by_cases ck : k = n
              · subst ck; simpa using q2
              · have l1 := fz_le (stZ p c a b) n
                exact ih (by omega) k (by omega)
      exact key N this k hk
    simp only [stZ, decide_eq_false_iff_not] at hne
    omega
  have hA : (tab (a.length - 1) (stA p c a b)).all (hasB p) = true := by
    rw [List.all_eq_true]; intro x hx
    obtain ⟨k, hk, rfl⟩ := List.mem_map.1 hx
    have := mod_small hp ((stp p c a b k).1 + (stp p c a b (k + 1)).2 + c)
    simp only [hasB, stA, Bool.and_eq_true, decide_eq_true_eq]; exact ⟨decide_eq_true this.1, decide_eq_true this.2⟩
  have hB : (tab (a.length - 1) (stB p c a b)).all (unitB p) = true := by
    rw [List.all_eq_true]; intro x hx
    obtain ⟨k, hk, rfl⟩ := List.mem_map.1 hx
    have hk := List.mem_range.1 hk
    have q := hz k hk
    simp only [unitB, Bool.and_eq_true, decide_eq_true_eq]
    unfold stB
    split
    · rename_i k0; subst k0
      have bb := jacB_b h (show 0 < a.length by omega)
      have n := prime_nz pr (show 0 < rdI b 0 ∧ rdI b 0 < p by omega) q
      have r := mod_small hp (rdI b 0 * (stp p c a b 0).1)
      omega
    · rename_i k0
      obtain ⟨j, rfl⟩ : ∃ j, k = j + 1 := ⟨k - 1, by omega⟩
      have bb := jacB_b h (show j + 1 < a.length by omega)
      have qj := hz j (by omega)
      have dd := divP_unit pr (show 0 < rdI b (j + 1) ∧ rdI b (j + 1) < p by omega) qj
      have e : (stp p c a b (j + 1)).2 = divP p (rdI b (j + 1)) (stp p c a b j).1 := rfl
      rw [← e] at dd
      have n := prime_nz pr q dd
      have r := mod_small hp ((stp p c a b (j + 1)).1 * (stp p c a b (j + 1)).2)
      omega
  unfold jacB
  rw [hA, hB, pr]
  simp [upTo, tab_len]; omega
end Go.Proofs.Ytacfkfdnncgjcaa.Ev
