/- The functional of moments of data: norms, and what makes the next polynomial. Conditions: none. -/
/- Orthogonal polynomials of moments of data: the reference's run. Conditions: none. -/
/- Orthogonal polynomials of moments of data: the reference's list of them. Conditions: none. -/
/- Data of moments: the reference's run. Conditions: none. -/
import Derived.Test.YtacfkfdnncgjcaaFnFA
import Derived.Test.YtacfkfdnncgjcaaFnED
import Derived.Test.YtacfkfdnncgjcaaFnFE
set_option linter.unusedSimpArgs false
set_option linter.unusedVariables false
namespace Go.Proofs.Ytacfkfdnncgjcaa.Ev
open Go Go.Proofs
open List (map_replicate map_set map_append map_reverse map_take map_drop map_tail any_map all_map mapM_map map_map)
set_option maxRecDepth 4000
set_option maxHeartbeats 4000000
attribute [local bitvec_to_nat] slL szI ldI zI undL apL setI rdI_get Nat.add_one_le_iff fillV zeros1 zeros0 appendD segV lvO goneOf sliceD bound Nat.add_assoc szL ldL setCs0 setCs1 setCs2 setCsA2 setCsA3 ldM fM0 fM1 szM zM plM0 plM1 agM paM ldJ fJ0 fJ1 fJ2 szJ zJ plJ0 plJ1 plJ2 agJ paJ

theorem sm_swap (h : Nat → Nat → Int) (n : Nat) : ∀ m, sm (fun j => sm (fun s => h s j) n) m = sm (fun s => sm (fun j => h s j) m) n
  | 0 => by simp only [sm, sm_zero]
  | m + 1 => by
    rw [sm, sm_swap h n m, ← sm_add]
    exact sm_congr fun s hs => by rw [sm]
theorem sm_split (f : Nat → Int) (m : Nat) : ∀ n, sm f (m + n) = sm f m + sm (fun i => f (m + i)) n
  | 0 => by simp only [sm, Nat.add_zero]; omega
  | n + 1 => by rw [← Nat.add_assoc, sm, sm_split f m n, sm]; omega
/-- The functional, moved by e, at a product. -/
theorem ap_mul {p : Int} (a b f g : List Int) (e N : Nat) (hN : f.length + g.length ≤ N) :
    cg p (sm (fun j => rdI (mulP p f g) j * mo p a b (j + e)) N) (sm (fun s => rdI f s * sm (fun t => rdI g t * mo p a b (s + t + e)) g.length) f.length) := by
  have e1 : cg p (sm (fun j => rdI (mulP p f g) j * mo p a b (j + e)) N) (sm (fun j => sm (fun s => (if s ≤ j then rdI f s * rdI g (j - s) else 0) * mo p a b (j + e)) f.length) N) := sm_cg fun j hj => by
    refine (cg.mulR _ (mulP_cg f g j)).trans (cg.of_eq ?_)
    rw [Int.mul_comm, sm_mulL]
    exact sm_congr fun s hs => Int.mul_comm _ _
  refine e1.trans (cg.of_eq ?_)
  rw [sm_swap (fun s j => (if s ≤ j then rdI f s * rdI g (j - s) else 0) * mo p a b (j + e))]
  refine sm_congr fun s hs => ?_
  obtain ⟨M, hM⟩ : ∃ M, N = s + (g.length + M) := ⟨N - s - g.length, by omega⟩
  rw [hM, sm_split, sm_congr (g := fun _ => 0) fun i hi => by rw [if_neg (by omega), Int.zero_mul], sm_zero, Int.zero_add, sm_more, sm_mulL]
  · refine sm_congr fun t ht => ?_
    rw [if_pos (by omega), Nat.add_sub_cancel_left, Int.mul_assoc]
  · intro i hi
    rw [Nat.add_sub_cancel_left, rdI_out hi]; simp
/-- A polynomial by the weights. -/
def Uf (p : Int) (a b f : List Int) (e j : Nat) : Int := sm (fun s => rdI f s * wA p a b a.length 0 (s + e) j) f.length
theorem ap_split {p : Int} (a b f g : List Int) (e : Nat) (h0 : 0 < a.length) :
    cg p (sm (fun s => rdI f s * sm (fun t => rdI g t * mo p a b (s + t + e)) g.length) f.length) (sm (fun j => Uf p a b f e j * (nrm p b j * Uf p a b g 0 j)) a.length) := by
  have e1 : cg p (sm (fun s => rdI f s * sm (fun t => rdI g t * mo p a b (s + t + e)) g.length) f.length) (sm (fun s => sm (fun j => rdI f s * wA p a b a.length 0 (s + e) j * (nrm p b j * Uf p a b g 0 j)) a.length) f.length) := sm_cg fun s hs => by
    have e2 : cg p (sm (fun t => rdI g t * mo p a b (s + t + e)) g.length) (sm (fun j => wA p a b a.length 0 (s + e) j * (nrm p b j * Uf p a b g 0 j)) a.length) := by
      have e3 : cg p (sm (fun t => rdI g t * mo p a b (s + t + e)) g.length) (sm (fun t => sm (fun j => rdI g t * (wA p a b a.length 0 (s + e) j * (nrm p b j * wA p a b a.length 0 t j))) a.length) g.length) := sm_cg fun t ht => by
        have z := Rk_zero (p := p) a b h0 (s + e) t
        rw [show s + e + t = s + t + e by omega] at z
        refine (cg.mulL _ z).trans (cg.of_eq ?_)
        unfold Rk
        rw [sm_mulL]
        exact sm_congr fun j hj => by rw [if_pos (Nat.zero_le _)]
      refine e3.trans (cg.of_eq ?_)
      rw [sm_swap (fun j t => rdI g t * (wA p a b a.length 0 (s + e) j * (nrm p b j * wA p a b a.length 0 t j)))]
      refine sm_congr fun j hj => ?_
      unfold Uf
      rw [sm_mulL, sm_mulL]
      exact sm_congr fun t ht => by simp only [Nat.add_zero]; grind
    refine (cg.mulL _ e2).trans (cg.of_eq ?_)
    rw [sm_mulL]
    exact sm_congr fun j hj => by rw [Int.mul_assoc]
  refine e1.trans (cg.of_eq ?_)
  rw [sm_swap (fun j s => rdI f s * wA p a b a.length 0 (s + e) j * (nrm p b j * Uf p a b g 0 j))]
  refine sm_congr fun j hj => ?_
  generalize nrm p b j * Uf p a b g 0 j = X
  unfold Uf
  rw [Int.mul_comm _ X, sm_mulL]
  exact sm_congr fun s hs => Int.mul_comm _ _
theorem Uf_pl {p : Int} (hp : 2 ≤ p ∧ p ≤ 10007) (a b : List Int) {i : Nat} (hi : i < a.length) {j : Nat} (hj : j < a.length) : cg p (Uf p a b (pl p a b i).1 0 j) (if i = j then 1 else 0) := by
  have h := (Qs_one hp a b (i + 1) i hi (by omega)).1 j hj
  have e : Uf p a b (pl p a b i).1 0 j = Qs p a b (i + 1) i j := by
    unfold Uf Qs
    rw [pl_length hp]; rfl
  rw [e]; exact h
theorem Uf_pl1 {p : Int} (hp : 2 ≤ p ∧ p ≤ 10007) (a b : List Int) {i : Nat} (hi : i < a.length) : cg p (Uf p a b (pl p a b i).1 1 i) (rdI a i) := by
  have e : Uf p a b (pl p a b i).1 1 i = sm (fun s => Pc p a b i s * wA p a b a.length 0 (s + 1) i) (i + 1) := by
    unfold Uf
    rw [pl_length hp]; rfl
  rw [e]
  refine (Qs_shift a b hi).trans ?_
  have q := (Qs_one hp a b (i + 1) i hi (by omega)).1
  have q0 := cg.mulL (rdI a i) (q i hi)
  have q1 : cg p (if 0 < i then Qs p a b (i + 1) i (i - 1) else 0) 0 := by
    split
    · refine (q (i - 1) (by omega)).trans (cg.of_eq (if_neg (by omega)))
    · exact cg.refl _ _
  have q2 : cg p (if i + 1 < a.length then rdI b (i + 1) * Qs p a b (i + 1) i (i + 1) else 0) 0 := by
    split
    · rename_i c
      refine (cg.mulL _ (q (i + 1) c)).trans (cg.of_eq ?_)
      rw [if_neg (by omega)]; omega
    · exact cg.refl _ _
  refine ((q0.add q1).add q2).trans (cg.of_eq ?_)
  rw [if_pos rfl]; omega
/-- The functional of a polynomial of data's square. -/
theorem ap_norm {p : Int} (hp : 2 ≤ p ∧ p ≤ 10007) (a b : List Int) {i N : Nat} (hi : i < a.length) (hN : 2 * i + 2 ≤ N) :
    cg p (sm (fun j => rdI (mulP p (pl p a b i).1 (pl p a b i).1) j * mo p a b j) N) (nrm p b i) := by
  have l := pl_length hp a b i
  have h := (ap_mul (p := p) a b (pl p a b i).1 (pl p a b i).1 0 N (by omega)).trans (ap_split a b _ _ 0 (by omega))
  simp only [Nat.add_zero] at h
  refine h.trans ?_
  have e : cg p (sm (fun j => Uf p a b (pl p a b i).1 0 j * (nrm p b j * Uf p a b (pl p a b i).1 0 j)) a.length) (sm (fun j => if j = i then nrm p b j else 0) a.length) := sm_cg fun j hj => by
    have u := Uf_pl hp a b hi hj
    refine (u.mul (cg.mulL _ u)).trans (cg.of_eq ?_)
    by_cases c : i = j
    · subst c; rw [if_pos rfl, if_pos rfl]; omega
    · rw [if_neg c, if_neg (fun q => c q.symm)]; omega
  refine e.trans (cg.of_eq (sm_one (fun j => nrm p b j) hi))
/-- .. and of x times the square. -/
theorem ap_alpha {p : Int} (hp : 2 ≤ p ∧ p ≤ 10007) (a b : List Int) {i N : Nat} (hi : i < a.length) (hN : 2 * i + 2 ≤ N) :
    cg p (sm (fun j => rdI (mulP p (pl p a b i).1 (pl p a b i).1) j * mo p a b (j + 1)) N) (rdI a i * nrm p b i) := by
  have l := pl_length hp a b i
  have h := (ap_mul (p := p) a b (pl p a b i).1 (pl p a b i).1 1 N (by omega)).trans (ap_split a b _ _ 1 (by omega))
  refine h.trans ?_
  have e : cg p (sm (fun j => Uf p a b (pl p a b i).1 1 j * (nrm p b j * Uf p a b (pl p a b i).1 0 j)) a.length) (sm (fun j => if j = i then Uf p a b (pl p a b i).1 1 j * nrm p b j else 0) a.length) := sm_cg fun j hj => by
    have u := Uf_pl hp a b hi hj
    refine (cg.mulL _ (cg.mulL _ u)).trans (cg.of_eq ?_)
    by_cases c : i = j
    · subst c; rw [if_pos rfl, if_pos rfl]; grind
    · rw [if_neg c, if_neg (fun q => c q.symm)]; grind
  refine (e.trans (cg.of_eq (sm_one (fun j => Uf p a b (pl p a b i).1 1 j * nrm p b j) hi))).trans ?_
  exact cg.mulR _ (Uf_pl1 hp a b hi)
end Go.Proofs.Ytacfkfdnncgjcaa.Ev

set_option linter.unusedSimpArgs false
set_option linter.unusedVariables false
namespace Go.Proofs.Ytacfkfdnncgjcaa.Ev
open Go Go.Proofs
open List (map_replicate map_set map_append map_reverse map_take map_drop map_tail any_map all_map mapM_map map_map)
set_option maxRecDepth 4000
set_option maxHeartbeats 4000000
attribute [local bitvec_to_nat] slL szI ldI zI undL apL setI rdI_get Nat.add_one_le_iff fillV zeros1 zeros0 appendD segV lvO goneOf sliceD bound Nat.add_assoc szL ldL setCs0 setCs1 setCs2 setCsA2 setCsA3 ldM fM0 fM1 szM zM plM0 plM1 agM paM ldJ fJ0 fJ1 fJ2 szJ zJ plJ0 plJ1 plJ2 agJ paJ

theorem dotP_sm {p : Int} (f l : List Int) (k : Nat) : ∀ i, cg p (dotP p f l k i) (sm (fun s => rdI f s * rdI l (s + k)) i)
  | 0 => cg.refl _ _
  | i + 1 => by
    rw [dotP, sm]
    exact (cg.md p _).trans ((dotP_sm f l k i).add (cg.refl _ _))
/-- The functional of a polynomial of data's square, as both texts come to it. -/
theorem dot_norm {p : Int} {a b : List Int} (hj : jacB p a b = true) {l : List Int} (hl : ∀ t, t < 2 * a.length → rdI l t = mo p a b t) {i : Nat} (hi : i < a.length) :
    dotP p (mulP p (pl p a b i).1 (pl p a b i).1) l 0 (mulP p (pl p a b i).1 (pl p a b i).1).length = nrm p b i := by
  have hp := jacB_prime hj
  have lm := mul_pl_len hp a b i i
  refine cg.eq (by omega) ?_ (dotP_range hp _ _ _ _) (nrm_range hj i hi)
  refine (dotP_sm _ _ _ _).trans ?_
  have e := ap_norm hp a b hi (N := 2 * i + 2) (Nat.le_refl _)
  rw [lm]
  have e2 : sm (fun j => rdI (mulP p (pl p a b i).1 (pl p a b i).1) j * mo p a b j) (2 * i + 2) = sm (fun s => rdI (mulP p (pl p a b i).1 (pl p a b i).1) s * rdI l (s + 0)) (i + i + 1) := by
    rw [show 2 * i + 2 = (i + i + 1) + 1 by omega, sm, rdI_out (f := mulP p (pl p a b i).1 (pl p a b i).1) (by omega), Int.zero_mul, Int.add_zero]
    exact sm_congr fun s hs => by rw [Nat.add_zero, hl s (by omega)]
  rw [e2] at e
  exact e
theorem dot_alpha {p : Int} {a b : List Int} (hj : jacB p a b = true) {l : List Int} (hl : ∀ t, t < 2 * a.length → rdI l t = mo p a b t) {i : Nat} (hi : i < a.length) :
    dotP p (mulP p (pl p a b i).1 (pl p a b i).1) l 1 (mulP p (pl p a b i).1 (pl p a b i).1).length = rdI a i * nrm p b i % p := by
  have hp := jacB_prime hj
  have lm := mul_pl_len hp a b i i
  refine cg.eq (by omega) ?_ (dotP_range hp _ _ _ _) (mod_small hp _)
  refine (dotP_sm _ _ _ _).trans (cg.trans ?_ (cg.md p _).symm)
  have e := ap_alpha hp a b hi (N := 2 * i + 2) (Nat.le_refl _)
  rw [lm]
  have e2 : sm (fun j => rdI (mulP p (pl p a b i).1 (pl p a b i).1) j * mo p a b (j + 1)) (2 * i + 2) = sm (fun s => rdI (mulP p (pl p a b i).1 (pl p a b i).1) s * rdI l (s + 1)) (i + i + 1) := by
    rw [show 2 * i + 2 = (i + i + 1) + 1 by omega, sm, rdI_out (f := mulP p (pl p a b i).1 (pl p a b i).1) (by omega), Int.zero_mul, Int.add_zero]
    exact sm_congr fun s hs => by rw [hl (s + 1) (by omega)]
  rw [e2] at e
  exact e
theorem run_l04Norm (p : Int) (l f : List Int) (k : Nat) (hm : momB p l = true) (hf : fine p f) (hk : (mulP p f f).length + k ≤ l.length) (hl : f.length ≤ 1000) :
    runv E1 58 [(V.agg [V.int .i64 (p), (V.list (List.length (l)) (List.map (V.int .i64) (l)))]), (V.list (List.length (f)) (List.map (V.int .i64) (f))), .int .i64 (k : Int)] = some ⟨true, .int .i64 (dotP p (mulP p f f) l k (mulP p f f).length), [.agg [.undef, .undef], .undef, .undef]⟩ := by
  have hp := momB_prime hm
  have h1 := run_l01Times p f f hp hf hf hl hl
  have h2 := up (run_l02Apply p l (mulP p f f) k hm (fine_hasB (mulP_fine hp f f)) hk)
  have cdk : codeOk Try.f58.ntmps (Try.f58.body.getD .skip) = true := by kernel_rfl
  refine run_of_WLr (fn := Try.f58) rfl Try.func58 rfl ⟨by simp [Try.ntmps58], by simp [wideA, ints], cdk, by simp [Try.f58]⟩ rfl (by simp [rebOk, noId, adoptT, adoptA, adoptL, adoptC, depth]) ?_
  generalize mulP p f f = g at *
  simp [go_sem, -map_replicate, -map_set, -map_append, -map_reverse, -map_take, -map_drop, -map_tail, -any_map, -all_map, -mapM_map, -map_map, bitvec_to_nat, h1, h2]
  repeat refine ⟨by kernel_rfl, by kernel_rfl, ?_⟩
  simp [mvcgen_simp, -map_replicate, -map_set, -map_append, -map_reverse, -map_take, -map_drop, -map_tail, -any_map, -all_map, -mapM_map, -map_map, Try.f58, szL, ldL, setCs0, setCs1, setCs2, setCsA2, setCsA3, ldM, fM0, fM1, szM, zM, plM0, plM1, agM, paM, ldJ, fJ0, fJ1, fJ2, szJ, zJ, plJ0, plJ1, plJ2, agJ, paJ]
end Go.Proofs.Ytacfkfdnncgjcaa.Ev

set_option linter.unusedSimpArgs false
set_option linter.unusedVariables false
namespace Go.Proofs.Ytacfkfdnncgjcaa.Ev
open Go Go.Proofs
open List (map_replicate map_set map_append map_reverse map_take map_drop map_tail any_map all_map mapM_map map_map)
set_option maxRecDepth 4000
set_option maxHeartbeats 4000000
attribute [local bitvec_to_nat] slL szI ldI zI undL apL setI rdI_get Nat.add_one_le_iff fillV zeros1 zeros0 appendD segV lvO goneOf sliceD bound Nat.add_assoc szL ldL setCs0 setCs1 setCs2 setCsA2 setCsA3 ldM fM0 fM1 szM zM plM0 plM1 agM paM ldJ fJ0 fJ1 fJ2 szJ zJ plJ0 plJ1 plJ2 agJ paJ

theorem addP_nil {p : Int} (hp : 2 ≤ p ∧ p ≤ 10007) {f : List Int} (hf : fine p f) (tf : trimL f = f) (k : Int) : addP p f [] k = f := by
  refine list_eq (p := p) (by omega) (addP_fine hp hf k) hf (addP_trim ..) tf fun j => (addP_rd f [] k j).trans (cg.of_eq ?_)
  rw [rdI_out (f := []) (by simp)]; simp
theorem al_ok {p : Int} {a b : List Int} (hj : jacB p a b = true) {i : Nat} (hi : i < a.length) : (rdI a i * nrm p b i % p * invP p (nrm p b i)) % p = rdI a i := by
  have hp := jacB_prime hj
  have u := nrm_unit hj i hi
  have ra := jacB_a hj hi
  refine cg.eq (by omega) ?_ (mod_small hp _) (by omega)
  refine (cg.md p _).trans ((cg.mulR _ (cg.md p _)).trans ?_)
  have z := cg.mulL (rdI a i) (inv_ok (jacB_pr hj) u)
  refine (cg.of_eq ?_).trans (z.trans (cg.of_eq (by omega)))
  rw [Int.mul_assoc]
theorem be_ok {p : Int} {a b : List Int} (hj : jacB p a b = true) {i : Nat} (hi : i + 1 < a.length) : (-(nrm p b (i + 1)) * invP p (nrm p b i)) % p = (-(rdI b (i + 1))) % p := by
  have hp := jacB_prime hj
  have u := nrm_unit hj i (by omega)
  refine cg.mod (by omega) ?_
  have z := cg.mulL (-(rdI b (i + 1))) (inv_ok (jacB_pr hj) u)
  have e := (nrm_next_cg p b i).neg.mulR (invP p (nrm p b i))
  refine e.trans ((cg.of_eq ?_).trans (z.trans (cg.of_eq (by omega))))
  grind
theorem pl_fst (p : Int) (a b : List Int) (k : Nat) : (pl p a b (k + 1)).1 = nextP p (rdI a k) (rdI b k) (pl p a b k).1 (pl p a b k).2 := by rw [pl]
theorem pl_one1 (p : Int) (a b : List Int) : (pl p a b 1).1 = addP p (mulP p [(-(rdI a 0)) % p, 1] (pl p a b 0).1) [] ((-(rdI b 0)) % p) := by
  have h : (pl p a b 0).2 = [] := rfl
  rw [pl_fst, h]; unfold nextP; exact Eq.refl _
theorem pl_two1 (p : Int) (a b : List Int) (k : Nat) : (pl p a b (k + 2)).1 = addP p (mulP p [(-(rdI a (k + 1))) % p, 1] (pl p a b (k + 1)).1) (pl p a b k).1 ((-(rdI b (k + 1))) % p) := by
  rw [pl_fst, pl_snd]; unfold nextP; exact Eq.refl _
theorem run_l04Polys (p : Int) (a b l : List Int) (n : Nat) (hm : momB p l = true) (hc : 0 < n → jacB p a b = true ∧ (∀ t, t < 2 * a.length → rdI l t = mo p a b t) ∧ n ≤ a.length) (hll : 2 * n ≤ l.length) :
    runv E1 57 [(V.agg [V.int .i64 (p), (V.list (List.length (l)) (List.map (V.int .i64) (l)))]), .int .i64 (n : Int)] = some ⟨true, .uniq 1 (n + 1) ((prow p a b (n + 1)).map UV), [.agg [.undef, .undef], .undef]⟩ := by
  have hp := momB_prime hm
  have hml := momB_len hm
  have p0 : ¬ p = 0 := by omega
  have cdk : codeOk Try.f57.ntmps (Try.f57.body.getD .skip) = true := by kernel_rfl
  refine run_of_WLr (fn := Try.f57) rfl Try.func57 rfl ⟨by simp [Try.ntmps57], by simp [wideA, ints], cdk, by simp [Try.f57]⟩ rfl (by simp [rebOk, noId, adoptT, adoptA, adoptL, adoptC, depth]) ?_
  simp [go_sem, -map_replicate, -map_set, -map_append, -map_reverse, -map_take, -map_drop, -map_tail, -any_map, -all_map, -mapM_map, -map_map, bitvec_to_nat, zR, zerosR, slR, undR, apR, zeros1, fillV]
  repeat refine ⟨by kernel_rfl, by kernel_rfl, ?_⟩
  rw [WL_loop]
  refine WL_for (keep := [1, 2, 5, 6, 7, 8]) (rs := resM Try.f57) rfl (by kernel_rfl) (fun k => mkSt [(1, .int .i64 (n : Int)), (2, .ptr 0 0 0), (5, .sl 1 0 0 (k + 1)), (6, .int .i64 p), (7, .int .i64 (if k = 0 then 1 else nrm p b (k - 1))), (8, .int .i64 (k : Int))] [some (⟨0, 1, 1, [.int .i64 p, (V.list (List.length (l)) (List.map (V.int .i64) (l)))]⟩), some (⟨0, 2, 1, (prow p a b (k + 1)).map UV⟩)] (resM Try.f57)) n ?_ ?_ 0 _ (by omega) rfl ?_
  · intro k hk next
    obtain ⟨hj, hl, hn⟩ := hc (by omega)
    have hj2 := jacB_len hj
    have hka : k < a.length := by omega
    have kk : (k : Int) < (n : Int) := by omega
    have w8 : IntKind.i64.wrap ((k : Int) + 1) = (k : Int) + 1 := IntWalk.i64_in _ (by omega)
    have k1 : k < k + 1 := by omega
    have k2 : (k : Int) < (k : Int) + 1 := by omega
    have lp := prow_len p a b (k + 1)
    have lP := pl_length hp a b k
    have fP := (pl_fine hp a b k).1
    have lm := mul_pl_len hp a b k k
    have g1 := run_l04Norm p l (pl p a b k).1 0 hm fP (by omega) (by omega)
    rw [dot_norm hj hl hka] at g1
    have g2 := run_l04Norm p l (pl p a b k).1 1 hm fP (by omega) (by omega)
    rw [dot_alpha hj hl hka] at g2
    simp only [Int.cast_ofNat_Int] at g1 g2
    rw [lP] at g1 g2
    have g3 := up (run_l01Inverse p (nrm p b k) hp)
    have rn := nrm_unit hj k hka
    have ra := jacB_a hj hka
    have ri := invP_range hp (nrm p b k)
    have r1 := mod_small hp (rdI a k * nrm p b k)
    have pm := mul_small (p := 10007) (by omega) (show 0 ≤ rdI a k * nrm p b k % p ∧ rdI a k * nrm p b k % p < 10007 by omega) (show 0 ≤ invP p (nrm p b k) ∧ invP p (nrm p b k) < 10007 by omega)
    have w1 : IntKind.i64.wrap (rdI a k * nrm p b k % p * invP p (nrm p b k)) = rdI a k * nrm p b k % p * invP p (nrm p b k) := IntWalk.i64_in _ (by omega)
    have t1 : (rdI a k * nrm p b k % p * invP p (nrm p b k)).tmod p = rdI a k := by rw [Int.tmod_eq_emod_of_nonneg pm.1, al_ok hj hka]
    have w2 : IntKind.i64.wrap (-(rdI a k)) = -(rdI a k) := IntWalk.i64_in _ (by omega)
    have g4 := up (run_l01Mod p (-(rdI a k)) hp)
    have tr2 : trimL [(-(rdI a k)) % p, 1] = [(-(rdI a k)) % p, 1] := trimL_top (by simp) (by simp [rdI])
    have g5 := run_l01Trim [(-(rdI a k)) % p, 1] (by simp)
    rw [tr2] at g5
    have fl : fine p [(-(rdI a k)) % p, 1] := fine_two hp.1 (mod_small hp _) (by omega)
    have g6 := run_l01Times p (pl p a b k).1 [(-(rdI a k)) % p, 1] hp fP fl (by omega) (by simp)
    rw [mulP_comm hp] at g6
    simp only [List.length_cons, List.length_nil, List.map_cons, List.map_nil, Nat.zero_add, Nat.reduceAdd] at g5 g6
    rw [lP] at g6
    have hs := prow_succ p a b (k + 1)
    have hg := prow_at p a b k1 UV
    rcases k with _ | k
    · have e1 : (pl p a b 1).1 = mulP p [(-(rdI a 0)) % p, 1] (pl p a b 0).1 := (pl_one1 p a b).trans (addP_nil hp (mulP_fine hp _ _) (mulP_trim ..) _)
      rw [e1] at hs
      simp only [Nat.zero_add, Nat.add_sub_cancel] at hs next
      rw [hs] at next
      have kn : 0 < n := by omega
      have lp1 : (prow p a b 1).length = 1 := prow_len p a b 1
      generalize hG : mulP p [(-(rdI a 0)) % p, 1] (pl p a b 0).1 = G at *
      simp only [Nat.zero_add] at g1 g2 g6 lP
      generalize (rdI a 0 * nrm p b 0) % p = u at *
      generalize invP p (nrm p b 0) = v at *
      generalize (-(rdI a 0)) % p = al at *
      simp [go_sem, -map_replicate, -map_set, -map_append, -map_reverse, -map_take, -map_drop, -map_tail, -any_map, -all_map, -mapM_map, -map_map, bitvec_to_nat, kn, lp1, lP, g1, g2, g3, g4, g5, g6, w1, w2, t1, wz1, prow_get, p0, zR, zerosR, slR, undR, apR, zerosV2, fillV, UV]
      repeat refine ⟨by kernel_rfl, by kernel_rfl, ?_⟩
      refine next _ rfl ?_
      (refine canon_mk ?_; simp [method_specs_simp, ordIds_app, ordRen_app, ordIds_app2, ordRen_app2, -map_replicate, -map_set, -map_append, -map_reverse, -map_take, -map_drop, -map_tail, -map_map, ordIds_UVapp, ordRen_UVapp, ordIds_UV, ordRen_UV, wz1])
    · have e1 := pl_two1 p a b k
      have lP0 := pl_length hp a b k
      have fP0 := (pl_fine hp a b k).1
      have rn0 := nrm_unit hj k (by omega)
      have rb := jacB_b hj hka
      have ri0 := invP_range hp (nrm p b k)
      have pm0 := mul_small (p := 10007) (by omega) (show 0 ≤ nrm p b (k + 1) ∧ nrm p b (k + 1) < 10007 by omega) (show 0 ≤ invP p (nrm p b k) ∧ invP p (nrm p b k) < 10007 by omega)
      have w3 : IntKind.i64.wrap (-(nrm p b (k + 1))) = -(nrm p b (k + 1)) := IntWalk.i64_in _ (by omega)
      have pm0' := Int.neg_mul (nrm p b (k + 1)) (invP p (nrm p b k))
      have w4 : IntKind.i64.wrap (-(nrm p b (k + 1)) * invP p (nrm p b k)) = -(nrm p b (k + 1)) * invP p (nrm p b k) := IntWalk.i64_in _ (by omega)
      have w5 : IntKind.i64.wrap (k : Int) = (k : Int) := IntWalk.i64_in _ (by omega)
      have g7 := up (run_l01Inverse p (nrm p b k) hp)
      have g8 := up (run_l01Mod p (-(nrm p b (k + 1)) * invP p (nrm p b k)) hp)
      rw [be_ok hj (by omega)] at g8
      have lm6 := mulP_le p [(-(rdI a (k + 1))) % p, 1] (pl p a b (k + 1)).1
      simp only [List.length_cons, List.length_nil] at lm6
      have g9 := run_l01Add p ((-(rdI b (k + 1))) % p) (mulP p [(-(rdI a (k + 1))) % p, 1] (pl p a b (k + 1)).1) (pl p a b k).1 hp (mulP_fine hp _ _) fP0 (mod_small hp _) (by omega) (by omega)
      rw [← e1] at g9
      rw [show k + 1 + 1 = k + 2 from rfl] at *
      have kz : ¬ k + 1 = 0 := by omega
      have kki : (k : Int) + 1 < (n : Int) := by omega
      have kk0 : (0 : Int) < (k : Int) + 1 := by omega
      have kk1 : (0 : Int) ≤ (k : Int) + 1 := by omega
      have kk2 : k + 1 < n := by omega
      have c3 : (k + 3) * 24 ≤ 140737488355328 := by omega
      have kl1 : k + 1 < k + 2 := by omega
      have kl2 : k < k + 2 := by omega
      have w9 : IntKind.i64.wrap ((k : Int) + 1 + 1) = (k : Int) + 2 := by rw [IntWalk.i64_in _ (by omega)]; omega
      have kl3 : (k : Int) < (k : Int) + 2 := by omega
      have kl4 : (k : Int) + 1 < (k : Int) + 2 := by omega
      generalize hG : mulP p [(-(rdI a (k + 1))) % p, 1] (pl p a b (k + 1)).1 = G at *
      simp only [if_neg kz, Nat.add_sub_cancel] at next ⊢
      rw [hs] at next
      rw [lP0] at g9
      generalize (rdI a (k + 1) * nrm p b (k + 1)) % p = u at *
      generalize invP p (nrm p b (k + 1)) = v at *
      generalize invP p (nrm p b k) = v2 at *
      generalize (-(rdI a (k + 1))) % p = al at *
      generalize (-(rdI b (k + 1))) % p = be at *
      generalize (pl p a b (k + 2)).1 = Q at *
      simp [go_sem, -map_replicate, -map_set, -map_append, -map_reverse, -map_take, -map_drop, -map_tail, -any_map, -all_map, -mapM_map, -map_map, bitvec_to_nat, kki, kk0, kk1, kk2, c3, kl1, kl2, kl3, kl4, w8, w5, lp, lP, lP0, g1, g2, g3, g4, g5, g6, g7, g8, g9, w1, t1, w2, w3, w4, p0, prow_get, zR, zerosR, slR, undR, apR, zerosV2, fillV, UV]
      repeat refine ⟨by kernel_rfl, by kernel_rfl, ?_⟩
      refine next _ rfl ?_
      (refine canon_mk ?_; simp [method_specs_simp, ordIds_app, ordRen_app, ordIds_app2, ordRen_app2, -map_replicate, -map_set, -map_append, -map_reverse, -map_take, -map_drop, -map_tail, -map_map, ordIds_UVapp, ordRen_UVapp, ordIds_UV, ordRen_UV, w9])
  · have lp := prow_len p a b (n + 1)
    have tk : List.take (n + 1) (List.map UV (prow p a b (n + 1))) = List.map UV (prow p a b (n + 1)) := take_map_full (by rw [lp]; exact Nat.le_refl _)
    simp [go_sem, -map_replicate, -map_set, -map_append, -map_reverse, -map_take, -map_drop, -map_tail, -any_map, -all_map, -mapM_map, -map_map, bitvec_to_nat]
    repeat refine ⟨by kernel_rfl, by kernel_rfl, ?_⟩
    simp [mvcgen_simp, -map_replicate, -map_set, -map_append, -map_reverse, -map_take, -map_drop, -map_tail, -any_map, -all_map, -mapM_map, -map_map, Try.f57, tk, lp, mapM_expN_UV, flatMap_eidN_UV, all_treeN_UV]
  · (refine canon_mk ?_; simp [method_specs_simp, ordIds_app, ordRen_app, ordIds_app2, ordRen_app2, -map_replicate, -map_set, -map_append, -map_reverse, -map_take, -map_drop, -map_tail, -map_map, prow, UV, pl])
end Go.Proofs.Ytacfkfdnncgjcaa.Ev

set_option linter.unusedSimpArgs false
set_option linter.unusedVariables false
namespace Go.Proofs.Ytacfkfdnncgjcaa.Ev
open Go Go.Proofs
open List (map_replicate map_set map_append map_reverse map_take map_drop map_tail any_map all_map mapM_map map_map)
set_option maxRecDepth 4000
set_option maxHeartbeats 4000000
attribute [local bitvec_to_nat] slL szI ldI zI undL apL setI rdI_get Nat.add_one_le_iff fillV zeros1 zeros0 appendD segV lvO goneOf sliceD bound Nat.add_assoc szL ldL setCs0 setCs1 setCs2 setCsA2 setCsA3 ldM fM0 fM1 szM zM plM0 plM1 agM paM ldJ fJ0 fJ1 fJ2 szJ zJ plJ0 plJ1 plJ2 agJ paJ

/-- The code of moments and a number of a polynomial. -/
def codeO (p : Int) (l : List Int) (k low : Int) : Int := if momB p l = true then (if low ≤ k ∧ k ≤ 12 then (if 2 * k ≤ l.length ∧ k ≤ ordN p l then 0 else 5) else 2) else 1
theorem run_l04Regular (p : Int) (l : List Int) (k : Int) (hm : momB p l = true) (hk : 0 ≤ k ∧ k ≤ 12) :
    runv E1 125 [(V.agg [V.int .i64 (p), (V.list (List.length (l)) (List.map (V.int .i64) (l)))]), (V.int .i64 (k))] = some ⟨true, .bool (decide (2 * k ≤ l.length) && decide (k ≤ ordN p l)), [.agg [.undef, .undef], .undef]⟩ := by
  have h1 := run_l02Order p l hm
  have hml := momB_len hm
  have w1 : IntKind.i64.wrap (2 * k) = 2 * k := IntWalk.i64_in _ (by omega)
  have w2 : IntKind.i64.wrap (l.length : Int) = l.length := IntWalk.i64_in _ (by omega)
  have cdk : codeOk Try.f125.ntmps (Try.f125.body.getD .skip) = true := by kernel_rfl
  refine run_of_WLr (fn := Try.f125) rfl Try.func125 rfl ⟨by simp [Try.ntmps125], by simp [wideA, ints], cdk, by simp [Try.f125]⟩ rfl (by simp [rebOk, noId, adoptT, adoptA, adoptL, adoptC, depth]) ?_
  by_cases c : 2 * k ≤ l.length
  · simp [go_sem, -map_replicate, -map_set, -map_append, -map_reverse, -map_take, -map_drop, -map_tail, -any_map, -all_map, -mapM_map, -map_map, bitvec_to_nat, undI64, undInt, convD, w1, w2, h1, c]
    repeat refine ⟨by kernel_rfl, by kernel_rfl, ?_⟩
    simp [mvcgen_simp, -map_replicate, -map_set, -map_append, -map_reverse, -map_take, -map_drop, -map_tail, -any_map, -all_map, -mapM_map, -map_map, Try.f125, c]
  · simp [go_sem, -map_replicate, -map_set, -map_append, -map_reverse, -map_take, -map_drop, -map_tail, -any_map, -all_map, -mapM_map, -map_map, bitvec_to_nat, undI64, undInt, convD, w1, w2, h1, c]
    repeat refine ⟨by kernel_rfl, by kernel_rfl, ?_⟩
    simp [mvcgen_simp, -map_replicate, -map_set, -map_append, -map_reverse, -map_take, -map_drop, -map_tail, -any_map, -all_map, -mapM_map, -map_map, Try.f125, c]
theorem run_l04Code (p : Int) (l : List Int) (k low : Int) (hl : l.length ≤ 1000000) (h0 : 0 ≤ low) :
    runv E1 56 [(V.agg [V.int .i64 (p), (V.list (List.length (l)) (List.map (V.int .i64) (l)))]), (V.int .i64 (k)), (V.int .i64 (low))] = some ⟨true, (V.int .i64 (codeO p l k low)), [.agg [.undef, .undef], .undef, .undef]⟩ := by
  have h1 := up (run_l02Are p l (by omega))
  have h2 := up (run_l01In' k low 12)
  have cdk : codeOk Try.f56.ntmps (Try.f56.body.getD .skip) = true := by kernel_rfl
  refine run_of_WLr (fn := Try.f56) rfl Try.func56 rfl ⟨by simp [Try.ntmps56], by simp [wideA, ints], cdk, by simp [Try.f56]⟩ rfl (by simp [rebOk, noId, adoptT, adoptA, adoptL, adoptC, depth]) ?_
  cases hm : momB p l with
  | false =>
    rw [hm] at h1
    simp [go_sem, -map_replicate, -map_set, -map_append, -map_reverse, -map_take, -map_drop, -map_tail, -any_map, -all_map, -mapM_map, -map_map, bitvec_to_nat, h1]
    repeat refine ⟨by kernel_rfl, by kernel_rfl, ?_⟩
    simp [mvcgen_simp, -map_replicate, -map_set, -map_append, -map_reverse, -map_take, -map_drop, -map_tail, -any_map, -all_map, -mapM_map, -map_map, Try.f56, codeO, hm]
  | true =>
    rw [hm] at h1
    by_cases c : low ≤ k ∧ k ≤ 12
    · have h3 := run_l04Regular p l k hm (by omega)
      rw [show (decide (low ≤ k) && decide (k ≤ 12)) = true by simp [c]] at h2
      by_cases d : 2 * k ≤ l.length ∧ k ≤ ordN p l
      · rw [show (decide (2 * k ≤ (l.length : Int)) && decide (k ≤ (ordN p l : Int))) = true by simp [d]] at h3
        simp [go_sem, -map_replicate, -map_set, -map_append, -map_reverse, -map_take, -map_drop, -map_tail, -any_map, -all_map, -mapM_map, -map_map, bitvec_to_nat, h1, h2, h3]
        repeat refine ⟨by kernel_rfl, by kernel_rfl, ?_⟩
        simp [mvcgen_simp, -map_replicate, -map_set, -map_append, -map_reverse, -map_take, -map_drop, -map_tail, -any_map, -all_map, -mapM_map, -map_map, Try.f56, codeO, hm, c, d]
      · rw [show (decide (2 * k ≤ (l.length : Int)) && decide (k ≤ (ordN p l : Int))) = false by simpa using fun h => by omega] at h3
        simp [go_sem, -map_replicate, -map_set, -map_append, -map_reverse, -map_take, -map_drop, -map_tail, -any_map, -all_map, -mapM_map, -map_map, bitvec_to_nat, h1, h2, h3]
        repeat refine ⟨by kernel_rfl, by kernel_rfl, ?_⟩
        simp [mvcgen_simp, -map_replicate, -map_set, -map_append, -map_reverse, -map_take, -map_drop, -map_tail, -any_map, -all_map, -mapM_map, -map_map, Try.f56, codeO, hm, c, d]
    · rw [show (decide (low ≤ k) && decide (k ≤ 12)) = false by simpa using fun h => by omega] at h2
      simp [go_sem, -map_replicate, -map_set, -map_append, -map_reverse, -map_take, -map_drop, -map_tail, -any_map, -all_map, -mapM_map, -map_map, bitvec_to_nat, h1, h2]
      repeat refine ⟨by kernel_rfl, by kernel_rfl, ?_⟩
      simp [mvcgen_simp, -map_replicate, -map_set, -map_append, -map_reverse, -map_take, -map_drop, -map_tail, -any_map, -all_map, -mapM_map, -map_map, Try.f56, codeO, hm, c]
theorem ord_ge {p : Int} {a b l : List Int} (hj : jacB p a b = true) (hl : ∀ t, t < 2 * a.length → rdI l t = mo p a b t) {n : Nat} (hn : n ≤ a.length) (hll : 2 * n ≤ l.length + 1) : n ≤ ordN p l :=
  ordN_ge (by omega) fun k hk => hank_nz hj hl (by omega)
theorem code_ok {p : Int} {a b l : List Int} (hj : jacB p a b = true) (hm : momB p l = true) (hl : ∀ t, t < 2 * a.length → rdI l t = mo p a b t) {n : Nat} (hn : n ≤ a.length) (hll : 2 * n ≤ l.length) {low : Int} (h0 : low ≤ n) : codeO p l n low = 0 := by
  have h1 := ord_ge hj hl hn (by omega)
  have h2 := jacB_len hj
  unfold codeO
  rw [if_pos hm, if_pos (by omega), if_pos (by omega)]
theorem be_ok2 {p : Int} {a b : List Int} (hj : jacB p a b = true) {i : Nat} (hi : i + 1 < a.length) : (nrm p b (i + 1) * invP p (nrm p b i)) % p = rdI b (i + 1) := by
  have hp := jacB_prime hj
  have u := nrm_unit hj i (by omega)
  have rb := jacB_b hj hi
  refine cg.eq (by omega) ?_ (mod_small hp _) (by omega)
  have z := cg.mulL (rdI b (i + 1)) (inv_ok (jacB_pr hj) u)
  have e := (nrm_next_cg p b i).mulR (invP p (nrm p b i))
  refine (cg.md p _).trans (e.trans ((cg.of_eq ?_).trans (z.trans (cg.of_eq (by omega)))))
  grind
theorem be_ok1 {p : Int} {a b : List Int} (hj : jacB p a b = true) : (nrm p b 0 * invP p 1) % p = rdI b 0 := by
  have hp := jacB_prime hj
  have rb := jacB_b hj (show 0 < a.length by have := jacB_len hj; omega)
  have e : invP p 1 = 1 := by unfold invP; rw [Int.one_pow]; exact Int.emod_eq_of_lt (by omega) (by omega)
  rw [e, Int.mul_one]
  exact Int.emod_eq_of_lt (by show 0 ≤ rdI b 0; omega) (by show rdI b 0 < p; omega)
theorem run_specJacobiOfMoments (p : Int) (a b l : List Int) (hj : jacB p a b = true) (hm : momB p l = true) (hl : ∀ t, t < 2 * a.length → rdI l t = mo p a b t) (hll : 2 * a.length ≤ l.length) :
    runv E1 13 [(V.agg [V.int .i64 (p), (V.list (List.length (l)) (List.map (V.int .i64) (l)))]), .int .i64 (a.length : Int)] = some ⟨true, .tup [(V.agg [V.int .i64 (p), (V.uniq 1 (List.length (a)) (List.map (V.int .i64) (a))), (V.uniq 1 (List.length (b)) (List.map (V.int .i64) (b)))]), .int .i64 0], [.agg [.undef, .undef], .undef]⟩ := by
  have hp := jacB_prime hj
  have hj2 := jacB_len hj
  have hml := momB_len hm
  have p0 : ¬ p = 0 := by omega
  have h1 := run_l04Code p l a.length 1 (by omega) (by omega)
  rw [code_ok hj hm hl (Nat.le_refl _) hll (by omega)] at h1
  have h2 := run_l04Polys p a b l a.length hm (fun _ => ⟨hj, hl, Nat.le_refl _⟩) hll
  have lp := prow_len p a b (a.length + 1)
  obtain ⟨n, hn⟩ : ∃ n, a.length = n := ⟨_, rfl⟩
  rw [hn] at h1 h2 lp
  rw [hn]
  have cdk : codeOk Try.f13.ntmps (Try.f13.body.getD .skip) = true := by kernel_rfl
  refine run_of_WLr (fn := Try.f13) rfl Try.func13 rfl ⟨by simp [Try.ntmps13], by simp [wideA, ints], cdk, by simp [Try.f13]⟩ rfl (by simp [rebOk, noId, adoptT, adoptA, adoptL, adoptC, depth]) ?_
  simp [go_sem, -map_replicate, -map_set, -map_append, -map_reverse, -map_take, -map_drop, -map_tail, -any_map, -all_map, -mapM_map, -map_map, bitvec_to_nat, h1, h2, fillV]
  repeat refine ⟨by kernel_rfl, by kernel_rfl, ?_⟩
  rw [WL_loop]
  refine WL_for (keep := [1, 2, 4, 7, 8, 9, 10, 11]) (rs := resM Try.f13) rfl (by kernel_rfl) (fun x => match x with | 0 => mkSt [(1, .int .i64 (n : Int)), (2, .ptr 0 0 0), (4, .ptr 1 0 0), (7, .sl 2 0 0 (n + 1)), (8, .int .i64 p), (9, .int .i64 1), (10, .ptr 3 0 0), (11, .int .i64 0)] [some (⟨0, 1, 1, [.int .i64 p, (V.list (List.length (l)) (List.map (V.int .i64) (l)))]⟩), some (⟨0, 1, 1, [.int .i64 0, .nils, .nils]⟩), some (⟨0, 2, 1, (prow p a b (n + 1)).map UV⟩), some (⟨0, 1, 1, [.int .i64 p, .nils, .nils]⟩)] (resM Try.f13) | k + 1 => mkSt [(1, .int .i64 (n : Int)), (2, .ptr 0 0 0), (4, .ptr 1 0 0), (7, .sl 2 0 0 (n + 1)), (8, .int .i64 p), (9, .int .i64 (nrm p b k)), (10, .ptr 3 0 0), (11, .int .i64 ((k : Int) + 1))] [some (⟨0, 1, 1, [.int .i64 p, (V.list (List.length (l)) (List.map (V.int .i64) (l)))]⟩), some (⟨0, 1, 1, [.int .i64 0, .nils, .nils]⟩), some (⟨0, 2, 1, (prow p a b (n + 1)).map UV⟩), some (⟨0, 1, 1, [.int .i64 p, .sl 4 0 0 (k + 1), .sl 5 0 0 (k + 1)]⟩), some (⟨0, 2, 1, (tab (k + 1) (rdI a)).map (V.int .i64)⟩), some (⟨0, 2, 1, (tab (k + 1) (rdI b)).map (V.int .i64)⟩)] (resM Try.f13)) n ?_ ?_ 0 _ (by omega) rfl ?_
  · intro k hk next
    have hka : k < a.length := by omega
    have lP := pl_length hp a b k
    have fP := (pl_fine hp a b k).1
    have lm := mul_pl_len hp a b k k
    have g1 := run_l04Norm p l (pl p a b k).1 0 hm fP (by omega) (by omega)
    rw [dot_norm hj hl hka] at g1
    have g2 := run_l04Norm p l (pl p a b k).1 1 hm fP (by omega) (by omega)
    rw [dot_alpha hj hl hka] at g2
    simp only [Int.cast_ofNat_Int] at g1 g2
    rw [lP] at g1 g2
    have g3 := up (run_l01Inverse p (nrm p b k) hp)
    have rn := nrm_unit hj k hka
    have ra := jacB_a hj hka
    have rb := jacB_b hj hka
    have ri := invP_range hp (nrm p b k)
    have r1 := mod_small hp (rdI a k * nrm p b k)
    have pm := mul_small (p := 10007) (by omega) (show 0 ≤ rdI a k * nrm p b k % p ∧ rdI a k * nrm p b k % p < 10007 by omega) (show 0 ≤ invP p (nrm p b k) ∧ invP p (nrm p b k) < 10007 by omega)
    have w1 : IntKind.i64.wrap (rdI a k * nrm p b k % p * invP p (nrm p b k)) = rdI a k * nrm p b k % p * invP p (nrm p b k) := IntWalk.i64_in _ (by omega)
    have t1 : (rdI a k * nrm p b k % p * invP p (nrm p b k)).tmod p = rdI a k := by rw [Int.tmod_eq_emod_of_nonneg pm.1, al_ok hj hka]
    have tA : tab (k + 1) (rdI a) = tab k (rdI a) ++ [rdI a k] := tab_succ _ _
    have tB : tab (k + 1) (rdI b) = tab k (rdI b) ++ [rdI b k] := tab_succ _ _
    have lA := tab_len k (rdI a)
    have lB := tab_len k (rdI b)
    have c3 : (k + 1) * 8 ≤ 140737488355328 := by omega
    have kn1 : k < n + 1 := by omega
    have hg := prow_at p a b kn1 UV
    rcases k with _ | k
    · have kn : 0 < n := by omega
      have kn2 : (0 : Int) < (n : Int) := by omega
      have kn3 : (0 : Int) < (n : Int) + 1 := by omega
      have g4 := up (run_l01Inverse p 1 hp)
      have ri1 := invP_range hp 1
      have pm1 := mul_small (p := 10007) (by omega) (show 0 ≤ nrm p b 0 ∧ nrm p b 0 < 10007 by omega) (show 0 ≤ invP p 1 ∧ invP p 1 < 10007 by omega)
      have w2 : IntKind.i64.wrap (nrm p b 0 * invP p 1) = nrm p b 0 * invP p 1 := IntWalk.i64_in _ (by omega)
      have t2 : (nrm p b 0 * invP p 1).tmod p = rdI b 0 := by rw [Int.tmod_eq_emod_of_nonneg pm1.1, be_ok1 hj]
      dsimp only at next ⊢
      rw [show tab 0 (rdI a) = [] from rfl] at tA
      rw [show tab 0 (rdI b) = [] from rfl] at tB
      simp only [Nat.zero_add] at g1 g2 lP
      generalize (rdI a 0 * nrm p b 0) % p = u at *
      generalize invP p (nrm p b 0) = v at *
      generalize invP p 1 = v1 at *
      simp [go_sem, -map_replicate, -map_set, -map_append, -map_reverse, -map_take, -map_drop, -map_tail, -any_map, -all_map, -mapM_map, -map_map, bitvec_to_nat, kn, kn2, kn3, g1, g2, g3, g4, lp, lP, prow_get, w1, t1, w2, t2, wz1, p0, UV, slR, undR, fillV]
      repeat refine ⟨by kernel_rfl, by kernel_rfl, ?_⟩
      refine next _ rfl ?_
      (refine canon_mk ?_; simp [method_specs_simp, ordIds_app, ordRen_app, ordIds_app2, ordRen_app2, -map_replicate, -map_set, -map_append, -map_reverse, -map_take, -map_drop, -map_tail, -map_map, tA, tB, wz1, ordIds_UV, ordRen_UV])
    · have kki : (k : Int) + 1 < (n : Int) := by omega
      have kk0 : (0 : Int) ≤ (k : Int) + 1 := by omega
      have kk1 : k + 1 < n := by omega
      have kk2 : k + 1 < n + 1 := by omega
      have kk3 : (k : Int) + 1 < (n : Int) + 1 := by omega
      have kt : ((k : Int) + 1).toNat = k + 1 := by omega
      have w9 : IntKind.i64.wrap ((k : Int) + 1 + 1) = (k : Int) + 1 + 1 := IntWalk.i64_in _ (by omega)
      have g4 := up (run_l01Inverse p (nrm p b k) hp)
      have rn0 := nrm_unit hj k (by omega)
      have ri1 := invP_range hp (nrm p b k)
      have pm1 := mul_small (p := 10007) (by omega) (show 0 ≤ nrm p b (k + 1) ∧ nrm p b (k + 1) < 10007 by omega) (show 0 ≤ invP p (nrm p b k) ∧ invP p (nrm p b k) < 10007 by omega)
      have w2 : IntKind.i64.wrap (nrm p b (k + 1) * invP p (nrm p b k)) = nrm p b (k + 1) * invP p (nrm p b k) := IntWalk.i64_in _ (by omega)
      have t2 : (nrm p b (k + 1) * invP p (nrm p b k)).tmod p = rdI b (k + 1) := by rw [Int.tmod_eq_emod_of_nonneg pm1.1, be_ok2 hj (by omega)]
      dsimp only at next ⊢
      generalize (rdI a (k + 1) * nrm p b (k + 1)) % p = u at *
      generalize invP p (nrm p b (k + 1)) = v at *
      generalize invP p (nrm p b k) = v1 at *
      generalize hA : tab (k + 1) (rdI a) = TA at *
      generalize hB : tab (k + 1) (rdI b) = TB at *
      simp [go_sem, -map_replicate, -map_set, -map_append, -map_reverse, -map_take, -map_drop, -map_tail, -any_map, -all_map, -mapM_map, -map_map, bitvec_to_nat, kki, kk0, kk1, kk2, kk3, kt, w9, c3, lA, lB, g1, g2, g3, g4, lp, lP, prow_get, w1, t1, w2, t2, wz1, p0, UV, slR, undR, fillV]
      repeat refine ⟨by kernel_rfl, by kernel_rfl, ?_⟩
      refine next _ rfl ?_
      (refine canon_mk ?_; simp [method_specs_simp, ordIds_app, ordRen_app, ordIds_app2, ordRen_app2, -map_replicate, -map_set, -map_append, -map_reverse, -map_take, -map_drop, -map_tail, -map_map, tA, tB, w9, ordIds_UV, ordRen_UV])
  · rcases n with _ | k
    · omega
    · have lA := tab_len (k + 1) (rdI a)
      have lB := tab_len (k + 1) (rdI b)
      have eA : tab (k + 1) (rdI a) = a := by rw [← hn]; exact tab_self a
      have eB : tab (k + 1) (rdI b) = b := by rw [← hn, ← hj2.2.2]; exact tab_self b
      have hb : b.length = k + 1 := by omega
      dsimp only
      rw [eA, eB]
      simp [go_sem, -map_replicate, -map_set, -map_append, -map_reverse, -map_take, -map_drop, -map_tail, -any_map, -all_map, -mapM_map, -map_map, bitvec_to_nat]
      repeat refine ⟨by kernel_rfl, by kernel_rfl, ?_⟩
      simp [mvcgen_simp, -map_replicate, -map_set, -map_append, -map_reverse, -map_take, -map_drop, -map_tail, -any_map, -all_map, -mapM_map, -map_map, Try.f13, hn, hb, szL, ldL, setCs0, setCs1, setCs2, setCsA2, setCsA3, ldM, fM0, fM1, szM, zM, plM0, plM1, agM, paM, ldJ, fJ0, fJ1, fJ2, szJ, zJ, plJ0, plJ1, plJ2, agJ, paJ, ctJ, loadD, viewN]
  · (refine canon_mk ?_; simp [method_specs_simp, ordIds_app, ordRen_app, ordIds_app2, ordRen_app2, -map_replicate, -map_set, -map_append, -map_reverse, -map_take, -map_drop, -map_tail, -map_map, ordIds_UV, ordRen_UV])
theorem run_specJacobiOfMomentsB (p : Int) (l : List Int) (n : Int) (hl : l.length ≤ 1000000) (h0 : codeO p l n 1 ≠ 0) :
    runv E1 13 [(V.agg [V.int .i64 (p), (V.list (List.length (l)) (List.map (V.int .i64) (l)))]), .int .i64 n] = some ⟨true, .tup [(V.agg [V.int .i64 (0), (V.uniq 1 (List.length (([] : List Int))) (List.map (V.int .i64) (([] : List Int)))), (V.uniq 1 (List.length (([] : List Int))) (List.map (V.int .i64) (([] : List Int))))]), .int .i64 (codeO p l n 1)], [.agg [.undef, .undef], .undef]⟩ := by
  have h1 := run_l04Code p l n 1 hl (by omega)
  generalize codeO p l n 1 = c at *
  have cdk : codeOk Try.f13.ntmps (Try.f13.body.getD .skip) = true := by kernel_rfl
  refine run_of_WLr (fn := Try.f13) rfl Try.func13 rfl ⟨by simp [Try.ntmps13], by simp [wideA, ints], cdk, by simp [Try.f13]⟩ rfl (by simp [rebOk, noId, adoptT, adoptA, adoptL, adoptC, depth]) ?_
  simp [go_sem, -map_replicate, -map_set, -map_append, -map_reverse, -map_take, -map_drop, -map_tail, -any_map, -all_map, -mapM_map, -map_map, bitvec_to_nat, h1, h0, fillV]
  repeat refine ⟨by kernel_rfl, by kernel_rfl, ?_⟩
  simp [mvcgen_simp, -map_replicate, -map_set, -map_append, -map_reverse, -map_take, -map_drop, -map_tail, -any_map, -all_map, -mapM_map, -map_map, Try.f13, szL, ldL, setCs0, setCs1, setCs2, setCsA2, setCsA3, ldM, fM0, fM1, szM, zM, plM0, plM1, agM, paM, ldJ, fJ0, fJ1, fJ2, szJ, zJ, plJ0, plJ1, plJ2, agJ, paJ, ctJ, loadD, viewN]
end Go.Proofs.Ytacfkfdnncgjcaa.Ev
