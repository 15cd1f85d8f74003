/- Determinants modulo p, where no rows are exchanged: the reference's run. Conditions: none. -/
/- Hankel determinants and the order, where no rows are exchanged: the reference's run. Conditions: none. -/
/- Hankel matrices of moments of data want no exchange of rows; their determinants are not 0. Conditions: none. -/
/- Lists whose Hankel determinants are not 0 begin as the moments of data. Conditions: none. -/
/- The order of moments: the reference's run. Conditions: none. -/
import Derived.Test.YtacfkfdnncgjcaaFnBE
import Derived.Test.YtacfkfdnncgjcaaFnFA
set_option linter.unusedSimpArgs false
set_option linter.unusedVariables false
namespace Go.Proofs.Ytacfkfdnncgjcaa.Ev
open Go Go.Proofs
open List (map_replicate map_set map_append map_reverse map_take map_drop map_tail any_map all_map mapM_map map_map)
set_option maxRecDepth 4000
set_option maxHeartbeats 4000000
attribute [local bitvec_to_nat] slL szI ldI zI undL apL setI rdI_get Nat.add_one_le_iff fillV zeros1 zeros0 appendD segV lvO goneOf sliceD bound Nat.add_assoc szL ldL setCs0 setCs1 setCs2 setCsA2 setCsA3 ldM fM0 fM1 szM zM plM0 plM1 agM paM ldJ fJ0 fJ1 fJ2 szJ zJ plJ0 plJ1 plJ2 agJ paJ

/-- A matrix as rows. -/
def rowsM (n : Nat) (M : Nat → Nat → Int) : List (List Int) := (List.range n).map fun i => tab n (M i)
theorem rowsM_len (n : Nat) (M : Nat → Nat → Int) : (rowsM n M).length = n := by simp [rowsM]
theorem rowsM_get {n i : Nat} (M : Nat → Nat → Int) (h : i < n) (g : List Int → V) : ((rowsM n M).map g)[i]? = some (g (tab n (M i))) := by simp [rowsM, h]
theorem rowsM_ix {n i : Nat} (M : Nat → Nat → Int) (h : i < (rowsM n M).length) : (rowsM n M)[i] = tab n (M i) := by simp [rowsM]
theorem rowsM_congr {n : Nat} {M M' : Nat → Nat → Int} (h : ∀ i k, i < n → k < n → M i k = M' i k) : rowsM n M = rowsM n M' := by
  unfold rowsM
  refine List.map_congr_left fun i hi => ?_
  exact tab_ext fun k hk => h i k (List.mem_range.1 hi) hk
theorem rowsM_set {n i : Nat} (M : Nat → Nat → Int) (r : Nat → Int) (h : i < n) : setCs ((rowsM n M).map UV) i [UV (tab n r)] = (rowsM n (fun j => if j = i then r else M j)).map UV := by
  unfold setCs rowsM
  apply List.ext_getElem?
  intro k
  rw [List.map_map, List.map_map]
  by_cases hk : k < n
  · rcases Nat.lt_trichotomy k i with c | c | c
    · rw [List.getElem?_append_left (by simp; omega), List.getElem?_append_left (by simp; omega)]
      simp [hk, c, show ¬ k = i by omega]
    · subst c
      rw [List.getElem?_append_left (by simp; omega), List.getElem?_append_right (by simp; omega)]
      simp [hk, Nat.min_eq_left (Nat.le_of_lt hk)]
    · rw [List.getElem?_append_right (by simp; omega)]
      simp [Nat.min_eq_left (Nat.le_of_lt h), hk, show ¬ k = i by omega]
      rw [show i + 1 + (k - (i + 1)) = k by omega]; simp [hk]
  · rw [List.getElem?_eq_none (by simp; omega), List.getElem?_eq_none (by simp; omega)]
/-- One column cleared. -/
def elN (p : Int) (M : Nat → Nat → Int) (c i : Nat) (k : Nat) : Int := (M i k - ((M i c * invP p (M c c)) % p) * M c k) % p
/-- .. in the rows from c + 1 to i - 1. -/
def elP (p : Int) (M : Nat → Nat → Int) (c i : Nat) : Nat → Nat → Int := fun j => if c < j ∧ j < i then elN p M c j else M j
def dtN (p : Int) (n : Nat) : Nat → (Nat → Nat → Int) → Int → Int
  | 0, _, out => out
  | d + 1, M, out => if M (n - (d + 1)) (n - (d + 1)) = 0 then 0 else dtN p n d (elP p M (n - (d + 1)) n) (out * M (n - (d + 1)) (n - (d + 1)) % p)
def finN (p : Int) (n : Nat) : Nat → (Nat → Nat → Int) → (Nat → Nat → Int)
  | 0, M => M
  | d + 1, M => if M (n - (d + 1)) (n - (d + 1)) = 0 then M else finN p n d (elP p M (n - (d + 1)) n)
/-- No rows are exchanged. -/
def okN (p : Int) (n : Nat) : Nat → (Nat → Nat → Int) → Prop
  | 0, _ => True
  | d + 1, M => (M (n - (d + 1)) (n - (d + 1)) = 0 → ∀ i, n - (d + 1) < i → i < n → M i (n - (d + 1)) = 0) ∧ (M (n - (d + 1)) (n - (d + 1)) ≠ 0 → okN p n d (elP p M (n - (d + 1)) n))
def rngN (p : Int) (n : Nat) (M : Nat → Nat → Int) : Prop := ∀ i k, i < n → k < n → 0 ≤ M i k ∧ M i k < p
theorem elP_one (p : Int) (M : Nat → Nat → Int) (c : Nat) : elP p M c (c + 1) = M := by
  funext j
  unfold elP
  rw [if_neg (by omega)]
theorem elP_rng {p : Int} (hp : 2 ≤ p ∧ p ≤ 10007) {n c : Nat} {M : Nat → Nat → Int} (h : rngN p n M) (i : Nat) : rngN p n (elP p M c i) := fun j k hj hk => by
  unfold elP
  split
  · exact mod_small hp _
  · exact h j k hj hk
theorem run_l02Det (p : Int) (n : Nat) (M : Nat → Nat → Int) (hp : 2 ≤ p ∧ p ≤ 10007) (hn : n ≤ 100) (hr : rngN p n M) (hok : okN p n n M) :
    runv E0 162 [(V.int .i64 (p)), .uniq 1 n ((rowsM n M).map UV)] = some ⟨true, .int .i64 (dtN p n n M 1), [.undef, .uniq 1 n ((rowsM n (finN p n n M)).map UV)]⟩ := by
  have p0 : ¬ p = 0 := by omega
  obtain ⟨D, hD⟩ : ∃ D, dtN p n n M 1 = D := ⟨_, rfl⟩
  obtain ⟨F, hF⟩ : ∃ F, finN p n n M = F := ⟨_, rfl⟩
  rw [hD, hF]
  have cdk : codeOk Try.f162.ntmps (Try.f162.body.getD .skip) = true := by kernel_rfl
  refine run_of_WL (fn := Try.f162) rfl Try.func162 rfl ⟨by simp [Try.ntmps162], by simp [wideA, ints], cdk, by simp [Try.f162]⟩ ?_
  simp [go_sem, -map_replicate, -map_set, -map_append, -map_reverse, -map_take, -map_drop, -map_tail, -any_map, -all_map, -mapM_map, -map_map, bitvec_to_nat, slR, undR, wz1]
  rw [WL_loop]
  refine WL_rounds (I := fun j st => ∃ (N : Nat → Nat → Int) (out : Int), st.fr 0 = .int .i64 p ∧ st.fr 1 = .sl 8 0 0 n ∧ st.fr 5 = .int .i64 out ∧ st.fr 6 = .int .i64 (n : Int) ∧ st.fr 7 = .int .i64 ((n - j : Nat) : Int) ∧ st.H 8 = some (⟨0, 2, 1, (rowsM n N).map UV⟩) ∧ 8 < st.nx ∧ j ≤ n ∧ rngN p n N ∧ (0 ≤ out ∧ out < p) ∧ okN p n j N ∧ dtN p n j N out = D ∧ finN p n j N = F) ?_ n _ ?_
  · rintro j st ⟨N, out, he0, he1, he2, he3, he4, he5, he6, hj, hN, ho, hk, hd, hf⟩ next
    have lN := rowsM_len n N
    rcases j with _ | d
    · rw [Nat.sub_zero] at he4
      have hd' : out = D := hd
      have hf' : N = F := hf
      have lF := rowsM_len n F
      have tF : List.take n (List.map UV (rowsM n F)) = List.map UV (rowsM n F) := take_map_full (by rw [lF]; exact Nat.le_refl _)
      subst hf'
      simp [go_sem, -map_replicate, -map_set, -map_append, -map_reverse, -map_take, -map_drop, -map_tail, -any_map, -all_map, -mapM_map, -map_map, slL, szI, ldI, zI, undL, apL, setI, rdI_get, Nat.add_one_le_iff, fillV, zeros1, zeros0, appendD, segV, lvO, goneOf, sliceD, bound, Nat.add_assoc, he0, he1, he2, he3, he4, he5, szL, ldL, setCs0, setCs1, setCs2, setCsA2, setCsA3, ldM, fM0, fM1, szM, zM, plM0, plM1, agM, paM, ldJ, fJ0, fJ1, fJ2, szJ, zJ, plJ0, plJ1, plJ2, agJ, paJ]
      simp [mvcgen_simp, -map_replicate, -map_set, -map_append, -map_reverse, -map_take, -map_drop, -map_tail, -any_map, -all_map, -mapM_map, -map_map, Try.f162, he0, he1, he2, he3, he4, he5, hd', mapM_expN_UV, flatMap_eidN_UV, all_treeN_UV, lF, tF]
    · obtain ⟨c, hc⟩ : ∃ c, n - (d + 1) = c := ⟨_, rfl⟩
      rw [hc] at he4
      have hcn : c < n := by omega
      have hci : (c : Int) < (n : Int) := by omega
      unfold okN at hk
      unfold dtN at hd
      unfold finN at hf
      simp only [hc] at hk hd hf
      have g0 := rowsM_get N hcn UV
      by_cases z : N c c = 0
      · have hz := hk.1 z
        rw [if_pos z] at hd hf
        have hd' := hd.symm
        clear hd next
        rw [← hf]
        have tF : List.take n (List.map UV (rowsM n N)) = List.map UV (rowsM n N) := take_map_full (by rw [lN]; exact Nat.le_refl _)
        simp [go_sem, -map_replicate, -map_set, -map_append, -map_reverse, -map_take, -map_drop, -map_tail, -any_map, -all_map, -mapM_map, -map_map, slL, szI, ldI, zI, undL, apL, setI, rdI_get, Nat.add_one_le_iff, fillV, zeros1, zeros0, appendD, segV, lvO, goneOf, sliceD, bound, Nat.add_assoc, he0, he1, he2, he3, he4, he5, szL, ldL, setCs0, setCs1, setCs2, setCsA2, setCsA3, ldM, fM0, fM1, szM, zM, plM0, plM1, agM, paM, ldJ, fJ0, fJ1, fJ2, szJ, zJ, plJ0, plJ1, plJ2, agJ, paJ, hci]
        rw [WL_loop]
        refine WL_count (I := fun i st => st.fr 0 = .int .i64 p ∧ st.fr 1 = .sl 8 0 0 n ∧ st.fr 6 = .int .i64 (n : Int) ∧ st.fr 7 = .int .i64 (c : Int) ∧ st.fr 8 = .int .i64 ((c + i : Nat) : Int) ∧ st.H 8 = some (⟨0, 2, 1, (rowsM n N).map UV⟩) ∧ 8 < st.nx) (n - c) ?_ ?_ 0 _ (by omega) ?_
        · rintro i st hi ⟨hf0, hf1, hf2, hf3, hf4, hf5, hf6⟩ next
          have hi1 : c + i < n := by omega
          have hi2 : ((c + i : Nat) : Int) < (n : Int) := by omega
          have hi0 : (0 : Int) ≤ ((c + i : Nat) : Int) := by omega
          have w1 : IntKind.i64.wrap (((c + i : Nat) : Int) + 1) = ((c + (i + 1) : Nat) : Int) := by rw [IntWalk.i64_in _ (by omega)]; omega
          have gi := rowsM_get N hi1 UV
          have tl := tab_len n (N (c + i))
          have tr : rdI (tab n (N (c + i))) c = 0 := by
            rw [tab_rd hcn]
            by_cases e0 : i = 0
            · subst e0; exact z
            · exact hz (c + i) (by omega) (by omega)
          generalize (c + i : Nat) = q at *
          simp [go_sem, -map_replicate, -map_set, -map_append, -map_reverse, -map_take, -map_drop, -map_tail, -any_map, -all_map, -mapM_map, -map_map, slL, szI, ldI, zI, undL, apL, setI, rdI_get, Nat.add_one_le_iff, fillV, zeros1, zeros0, appendD, segV, lvO, goneOf, sliceD, bound, Nat.add_assoc, hf0, hf1, hf2, hf3, hf4, hf5, szL, ldL, setCs0, setCs1, setCs2, setCsA2, setCsA3, ldM, fM0, fM1, szM, zM, plM0, plM1, agM, paM, ldJ, fJ0, fJ1, fJ2, szJ, zJ, plJ0, plJ1, plJ2, agJ, paJ, hi0, hi1, hi2, w1, rowsM_ix, tl, tr, lN, hcn, hci, slR, undR, UV]
          repeat refine ⟨by kernel_rfl, by kernel_rfl, ?_⟩
          refine next _ ?_
          simp [upd, row, -map_replicate, -map_set, -map_append, -map_reverse, -map_take, -map_drop, -map_tail, -map_map, hf0, hf1, hf2, hf3, hf4, hf5]
        · rintro st ⟨hf0, hf1, hf2, hf3, hf4, hf5, hf6⟩
          rw [show c + (n - c) = n by omega] at hf4
          simp [go_sem, -map_replicate, -map_set, -map_append, -map_reverse, -map_take, -map_drop, -map_tail, -any_map, -all_map, -mapM_map, -map_map, slL, szI, ldI, zI, undL, apL, setI, rdI_get, Nat.add_one_le_iff, fillV, zeros1, zeros0, appendD, segV, lvO, goneOf, sliceD, bound, Nat.add_assoc, hf0, hf1, hf2, hf3, hf4, hf5, szL, ldL, setCs0, setCs1, setCs2, setCsA2, setCsA3, ldM, fM0, fM1, szM, zM, plM0, plM1, agM, paM, ldJ, fJ0, fJ1, fJ2, szJ, zJ, plJ0, plJ1, plJ2, agJ, paJ]
          simp [mvcgen_simp, -map_replicate, -map_set, -map_append, -map_reverse, -map_take, -map_drop, -map_tail, -any_map, -all_map, -mapM_map, -map_map, Try.f162, hf0, hf1, hf2, hf3, hf4, hf5, mapM_expN_UV, flatMap_eidN_UV, all_treeN_UV, lN, tF, hd']
        · simp [upd, he0, he1, he2, he3, he4, he5]
      · have hok' := hk.2 z
        rw [if_neg z] at hd hf
        have c0 : (0 : Int) ≤ (c : Int) := by omega
        have cne : ¬ (c : Int) = (n : Int) := by omega
        have hx := hN c c hcn hcn
        have tlc := tab_len n (N c)
        have trc : rdI (tab n (N c)) c = N c c := tab_rd hcn
        have pm := mul_small (p := 10007) (by omega) (show 0 ≤ out ∧ out < 10007 by omega) (show 0 ≤ N c c ∧ N c c < 10007 by omega)
        have w1 : IntKind.i64.wrap (out * N c c) = out * N c c := IntWalk.i64_in _ (by omega)
        have w2 : (out * N c c).tmod p = out * N c c % p := Int.tmod_eq_emod_of_nonneg pm.1
        have w3 : IntKind.i64.wrap ((c : Int) + 1) = ((c + 1 : Nat) : Int) := by rw [IntWalk.i64_in _ (by omega)]; omega
        have hinv := run_l01Inverse p (N c c) hp
        have ri := invP_range hp (N c c)
        simp [go_sem, -map_replicate, -map_set, -map_append, -map_reverse, -map_take, -map_drop, -map_tail, -any_map, -all_map, -mapM_map, -map_map, slL, szI, ldI, zI, undL, apL, setI, rdI_get, Nat.add_one_le_iff, fillV, zeros1, zeros0, appendD, segV, lvO, goneOf, sliceD, bound, Nat.add_assoc, he0, he1, he2, he3, he4, he5, szL, ldL, setCs0, setCs1, setCs2, setCsA2, setCsA3, ldM, fM0, fM1, szM, zM, plM0, plM1, agM, paM, ldJ, fJ0, fJ1, fJ2, szJ, zJ, plJ0, plJ1, plJ2, agJ, paJ, hci]
        rw [WL_loop, WL_inLoop rfl]
        simp [go_sem, -map_replicate, -map_set, -map_append, -map_reverse, -map_take, -map_drop, -map_tail, -any_map, -all_map, -mapM_map, -map_map, slL, szI, ldI, zI, undL, apL, setI, rdI_get, Nat.add_one_le_iff, fillV, zeros1, zeros0, appendD, segV, lvO, goneOf, sliceD, bound, Nat.add_assoc, he0, he1, he2, he3, he4, he5, szL, ldL, setCs0, setCs1, setCs2, setCsA2, setCsA3, ldM, fM0, fM1, szM, zM, plM0, plM1, agM, paM, ldJ, fJ0, fJ1, fJ2, szJ, zJ, plJ0, plJ1, plJ2, agJ, paJ, hci, hcn, c0, cne, rowsM_ix, lN, tlc, trc, z, w1, w2, w3, p0, hinv, slR, undR, UV]
        repeat refine ⟨by kernel_rfl, by kernel_rfl, ?_⟩
        rw [WL_loop]
        refine WL_count (I := fun q st => st.fr 0 = .int .i64 p ∧ st.fr 1 = .sl 8 0 0 n ∧ st.fr 5 = .int .i64 (out * N c c % p) ∧ st.fr 6 = .int .i64 (n : Int) ∧ st.fr 7 = .int .i64 (c : Int) ∧ st.fr 9 = (V.list (List.length (tab n (N c))) (List.map (V.int .i64) (tab n (N c)))) ∧ st.fr 10 = .int .i64 (invP p (N c c)) ∧ st.fr 11 = .int .i64 ((c + 1 + q : Nat) : Int) ∧ st.H 8 = some (⟨0, 2, 1, (rowsM n (elP p N c (c + 1 + q))).map UV⟩) ∧ 8 < st.nx) (n - (c + 1)) ?_ ?_ 0 _ (by omega) ?_
        · rintro q st hq ⟨hg0, hg1, hg2, hg3, hg4, hg5, hg6, hg7, hg8, hg9⟩ next2
          obtain ⟨i, hi⟩ : ∃ i, c + 1 + q = i := ⟨_, rfl⟩
          have hi' : c + 1 + (q + 1) = i + 1 := by omega
          rw [hi'] at next2
          rw [hi] at hg7 hg8
          have hin : i < n := by omega
          have hii : (i : Int) < (n : Int) := by omega
          have i0 : (0 : Int) ≤ (i : Int) := by omega
          have lP := rowsM_len n (elP p N c i)
          have ei : elP p N c i i = N i := by unfold elP; rw [if_neg (by omega)]
          have tli := tab_len n (N i)
          have tri : rdI (tab n (N i)) c = N i c := tab_rd hcn
          have rx := hN i c hin hcn
          have pm2 := mul_small (p := 10007) (by omega) (show 0 ≤ N i c ∧ N i c < 10007 by omega) (show 0 ≤ invP p (N c c) ∧ invP p (N c c) < 10007 by omega)
          have w4 : IntKind.i64.wrap (N i c * invP p (N c c)) = N i c * invP p (N c c) := IntWalk.i64_in _ (by omega)
          have w5 : (N i c * invP p (N c c)).tmod p = N i c * invP p (N c c) % p := Int.tmod_eq_emod_of_nonneg pm2.1
          have rf := mod_small hp (N i c * invP p (N c c))
          obtain ⟨fac, hfac⟩ : ∃ fac, N i c * invP p (N c c) % p = fac := ⟨_, rfl⟩
          rw [hfac] at w5 rf
          have w9 : IntKind.i64.wrap ((i : Int) + 1) = ((i + 1 : Nat) : Int) := by rw [IntWalk.i64_in _ (by omega)]; omega
          simp [go_sem, -map_replicate, -map_set, -map_append, -map_reverse, -map_take, -map_drop, -map_tail, -any_map, -all_map, -mapM_map, -map_map, slL, szI, ldI, zI, undL, apL, setI, rdI_get, Nat.add_one_le_iff, fillV, zeros1, zeros0, appendD, segV, lvO, goneOf, sliceD, bound, Nat.add_assoc, hg0, hg1, hg2, hg3, hg4, hg5, hg6, hg7, hg8, szL, ldL, setCs0, setCs1, setCs2, setCsA2, setCsA3, ldM, fM0, fM1, szM, zM, plM0, plM1, agM, paM, ldJ, fJ0, fJ1, fJ2, szJ, zJ, plJ0, plJ1, plJ2, agJ, paJ, hii, hin, hci, hcn, c0, i0, rowsM_ix, lP, ei, tli, tri, w4, w5, p0, slR, undR, UV, zeros0]
          repeat refine ⟨by kernel_rfl, by kernel_rfl, ?_⟩
          rw [WL_loop]
          refine WL_count (I := fun k st => st.fr 0 = .int .i64 p ∧ st.fr 1 = .sl 8 0 0 n ∧ st.fr 5 = .int .i64 (out * N c c % p) ∧ st.fr 6 = .int .i64 (n : Int) ∧ st.fr 7 = .int .i64 (c : Int) ∧ st.fr 9 = (V.list (List.length (tab n (N c))) (List.map (V.int .i64) (tab n (N c)))) ∧ st.fr 10 = .int .i64 (invP p (N c c)) ∧ st.fr 11 = .int .i64 (i : Int) ∧ st.fr 12 = .int .i64 fac ∧ st.fr 14 = .int .i64 (k : Int) ∧ st.H 8 = some (⟨0, 2, 1, (rowsM n (elP p N c i)).map UV⟩) ∧ 8 < st.nx ∧ Grow .i64 8 st 13 (tab k (elN p N c i))) n ?_ ?_ 0 _ (by omega) ?_
          · rintro k st hk2 ⟨hh0, hh1, hh2, hh3, hh4, hh5, hh6, hh7, hh8, hh9, hh10, hh11, hh12⟩ next3
            have kn : (k : Int) < (n : Int) := by omega
            have k0 : (0 : Int) ≤ (k : Int) := by omega
            have trk : rdI (tab n (N i)) k = N i k := tab_rd hk2
            have trc2 : rdI (tab n (N c)) k = N c k := tab_rd hk2
            have ry := hN i k hin hk2
            have rz := hN c k hcn hk2
            have pm3 := mul_small (p := 10007) (by omega) (show 0 ≤ fac ∧ fac < 10007 by omega) (show 0 ≤ N c k ∧ N c k < 10007 by omega)
            have w6 : IntKind.i64.wrap (fac * N c k) = fac * N c k := IntWalk.i64_in _ (by omega)
            have w7 : IntKind.i64.wrap (N i k - fac * N c k) = N i k - fac * N c k := IntWalk.i64_in _ (by omega)
            have w8 : IntKind.i64.wrap ((k : Int) + 1) = (k : Int) + 1 := IntWalk.i64_in _ (by omega)
            have hmod := run_l01Mod p (N i k - fac * N c k) hp
            have ev : elN p N c i k = (N i k - fac * N c k) % p := by unfold elN; rw [hfac]
            have ts : tab (k + 1) (elN p N c i) = tab k (elN p N c i) ++ [(N i k - fac * N c k) % p] := by rw [tab_succ, ev]
            have tl := tab_len k (elN p N c i)
            have c3 : (k + 1) * 8 ≤ 140737488355328 := by omega
            have n1 := ne_new hh11
            rw [ts] at next3
            generalize tab k (elN p N c i) = A at *
            rcases hh12 with ⟨rfl, h8⟩ | ⟨id, ver, h8, hH, hx2, hlo⟩
            · simp [go_sem, -map_replicate, -map_set, -map_append, -map_reverse, -map_take, -map_drop, -map_tail, -any_map, -all_map, -mapM_map, -map_map, slL, szI, ldI, zI, undL, apL, setI, rdI_get, Nat.add_one_le_iff, fillV, zeros1, zeros0, appendD, segV, lvO, goneOf, sliceD, bound, Nat.add_assoc, hh0, hh1, hh2, hh3, hh4, hh5, hh6, hh7, hh8, hh9, hh10, szL, ldL, setCs0, setCs1, setCs2, setCsA2, setCsA3, ldM, fM0, fM1, szM, zM, plM0, plM1, agM, paM, ldJ, fJ0, fJ1, fJ2, szJ, zJ, plJ0, plJ1, plJ2, agJ, paJ, h8, kn, k0, hii, hin, i0, rowsM_ix, lP, ei, tli, trk, trc2, tlc, hk2, w6, w7, w8, hmod, n1, slR, undR, UV, zeros1, fillV]
              repeat refine ⟨by kernel_rfl, by kernel_rfl, ?_⟩
              exact next3 _ ⟨by simp [upd, hh0], by simp [upd, hh1], by simp [upd, hh2], by simp [upd, hh3], by simp [upd, hh4], by simp [upd, hh5], by simp [upd, hh6], by simp [upd, hh7], by simp [upd, hh8], by simp [upd], by simp [upd, hh10, n1], by simp <;> omega, Grow.own _ rfl (by simp) (by simp [upd]) (by simp) (by omega)⟩
            · have q1 : ¬ 8 = id := by omega
              have q2 : ¬ id = 8 := by omega
              simp [go_sem, -map_replicate, -map_set, -map_append, -map_reverse, -map_take, -map_drop, -map_tail, -any_map, -all_map, -mapM_map, -map_map, slL, szI, ldI, zI, undL, apL, setI, rdI_get, Nat.add_one_le_iff, fillV, zeros1, zeros0, appendD, segV, lvO, goneOf, sliceD, bound, Nat.add_assoc, hh0, hh1, hh2, hh3, hh4, hh5, hh6, hh7, hh8, hh9, hh10, szL, ldL, setCs0, setCs1, setCs2, setCsA2, setCsA3, ldM, fM0, fM1, szM, zM, plM0, plM1, agM, paM, ldJ, fJ0, fJ1, fJ2, szJ, zJ, plJ0, plJ1, plJ2, agJ, paJ, h8, hH, kn, k0, hii, hin, i0, rowsM_ix, lP, ei, tli, trk, trc2, tlc, hk2, w6, w7, w8, hmod, n1, tl, c3, q1, q2, ne_new hx2, new_ne hx2, slR, undR, UV, zeros1, fillV]
              repeat refine ⟨by kernel_rfl, by kernel_rfl, ?_⟩
              exact next3 _ ⟨by simp [upd, hh0], by simp [upd, hh1], by simp [upd, hh2], by simp [upd, hh3], by simp [upd, hh4], by simp [upd, hh5], by simp [upd, hh6], by simp [upd, hh7], by simp [upd, hh8], by simp [upd], by simp [upd, hh10, n1, q1], by simp <;> omega, Grow.own _ rfl (by simp [tl]) (by simp [upd]) (by simp <;> omega) hlo⟩
          · rintro st ⟨hh0, hh1, hh2, hh3, hh4, hh5, hh6, hh7, hh8, hh9, hh10, hh11, hh12⟩
            have tl := tab_len n (elN p N c i)
            rcases hh12 with ⟨h0, h8⟩ | ⟨id, ver, h8, hH, hx2, hlo⟩
            · rw [h0] at tl; simp at tl; omega
            · have q1 : ¬ 8 = id := by omega
              have q2 : ¬ id = 8 := by omega
              have hset := rowsM_set (elP p N c i) (elN p N c i) hin
              have hcg : rowsM n (fun j => if j = i then elN p N c i else elP p N c i j) = rowsM n (elP p N c (i + 1)) := rowsM_congr fun j k hj hk3 => by
                show (if j = i then elN p N c i else elP p N c i j) k = elP p N c (i + 1) j k
                by_cases e1 : j = i
                · subst e1
                  rw [if_pos rfl]
                  unfold elP
                  rw [if_pos ⟨by omega, by omega⟩]
                · rw [if_neg e1]
                  unfold elP
                  by_cases e2 : c < j ∧ j < i
                  · rw [if_pos e2, if_pos ⟨e2.1, by omega⟩]
                  · rw [if_neg e2, if_neg (fun h => e2 ⟨h.1, by omega⟩)]
              rw [hcg, show UV (tab n (elN p N c i)) = V.uniq 1 n ((tab n (elN p N c i)).map (V.int .i64)) by unfold UV; rw [tl]] at hset
              rw [tl] at h8
              simp [go_sem, -map_replicate, -map_set, -map_append, -map_reverse, -map_take, -map_drop, -map_tail, -any_map, -all_map, -mapM_map, -map_map, slL, szI, ldI, zI, undL, apL, setI, rdI_get, Nat.add_one_le_iff, fillV, zeros1, zeros0, appendD, segV, lvO, goneOf, sliceD, bound, Nat.add_assoc, hh0, hh1, hh2, hh3, hh4, hh5, hh6, hh7, hh8, hh9, hh10, szL, ldL, setCs0, setCs1, setCs2, setCsA2, setCsA3, ldM, fM0, fM1, szM, zM, plM0, plM1, agM, paM, ldJ, fJ0, fJ1, fJ2, szJ, zJ, plJ0, plJ1, plJ2, agJ, paJ, h8, hH, hii, hin, i0, lP, tl, q1, q2, w9, hset, slR, undR]
              repeat refine ⟨by kernel_rfl, by kernel_rfl, ?_⟩
              exact next2 _ ⟨by simp [upd, hh0], by simp [upd, hh1], by simp [upd, hh2], by simp [upd, hh3], by simp [upd, hh4], by simp [upd, hh5], by simp [upd, hh6], by simp [upd], by simp [upd, hset], by simp <;> omega⟩
          · simp [upd, hg0, hg1, hg2, hg3, hg4, hg5, hg6, hg7, hg8]
            exact Or.inl ⟨rfl, by simp [upd]⟩
        · rintro st ⟨hg0, hg1, hg2, hg3, hg4, hg5, hg6, hg7, hg8, hg9⟩
          rw [show c + 1 + (n - (c + 1)) = n by omega] at hg7 hg8
          simp [go_sem, -map_replicate, -map_set, -map_append, -map_reverse, -map_take, -map_drop, -map_tail, -any_map, -all_map, -mapM_map, -map_map, slL, szI, ldI, zI, undL, apL, setI, rdI_get, Nat.add_one_le_iff, fillV, zeros1, zeros0, appendD, segV, lvO, goneOf, sliceD, bound, Nat.add_assoc, hg0, hg1, hg2, hg3, hg4, hg5, hg6, hg7, hg8, szL, ldL, setCs0, setCs1, setCs2, setCsA2, setCsA3, ldM, fM0, fM1, szM, zM, plM0, plM1, agM, paM, ldJ, fJ0, fJ1, fJ2, szJ, zJ, plJ0, plJ1, plJ2, agJ, paJ, w3]
          repeat refine ⟨by kernel_rfl, by kernel_rfl, ?_⟩
          refine next d _ (by omega) ⟨elP p N c n, out * N c c % p, ?_⟩
          have hs : ((n - d : Nat) : Int) = ((c + 1 : Nat) : Int) := by omega
          rw [hs]
          simp [upd, row, -map_replicate, -map_set, -map_append, -map_reverse, -map_take, -map_drop, -map_tail, -map_map, hg0, hg1, hg2, hg3, hg4, hg5, hg6, hg7, hg8]
          refine ⟨by omega, elP_rng hp hN n, mod_small hp _, hok', hd, hf⟩
        · simp [upd, he0, he1, he2, he3, he4, he5, elP_one]
          try omega
  · refine ⟨M, 1, ?_⟩
    simp [upd]
    exact ⟨hr, by omega, hok, hD, hF⟩
end Go.Proofs.Ytacfkfdnncgjcaa.Ev

set_option linter.unusedSimpArgs false
set_option linter.unusedVariables false
namespace Go.Proofs.Ytacfkfdnncgjcaa.Ev
open Go Go.Proofs
open List (map_replicate map_set map_append map_reverse map_take map_drop map_tail any_map all_map mapM_map map_map)
set_option maxRecDepth 4000
set_option maxHeartbeats 4000000
attribute [local bitvec_to_nat] slL szI ldI zI undL apL setI rdI_get Nat.add_one_le_iff fillV zeros1 zeros0 appendD segV lvO goneOf sliceD bound Nat.add_assoc szL ldL setCs0 setCs1 setCs2 setCsA2 setCsA3 ldM fM0 fM1 szM zM plM0 plM1 agM paM ldJ fJ0 fJ1 fJ2 szJ zJ plJ0 plJ1 plJ2 agJ paJ

/-- The Hankel matrix of a list. -/
def hkM (l : List Int) : Nat → Nat → Int := fun i t => rdI l (i + t)
def hkR (l : List Int) (k i : Nat) : List (List Int) := (List.range i).map fun i => tab k (hkM l i)
theorem hkR_full (l : List Int) (k : Nat) : hkR l k k = rowsM k (hkM l) := rfl
theorem hkR_len (l : List Int) (k i : Nat) : (hkR l k i).length = i := by simp [hkR]
theorem hkR_succ (l : List Int) (k i : Nat) : (hkR l k (i + 1)).map UV = (hkR l k i).map UV ++ [V.uniq 1 k ((tab k (hkM l i)).map (V.int .i64))] := by
  unfold hkR
  rw [List.range_succ, List.map_append, List.map_append]
  simp [UV, tab_len]
theorem hkM_rng {p : Int} {l : List Int} (h : ∀ i, i < l.length → 0 ≤ rdI l i ∧ rdI l i < p) {k : Nat} (hk : 2 * k ≤ l.length + 1) : rngN p k (hkM l) := fun i t hi ht => h (i + t) (by omega)
/-- Rows as references. -/
def refs (ids : Nat → Nat) (k i : Nat) : List V := (List.range i).map fun j => V.sl (ids j) 0 0 k
theorem refs_len (ids : Nat → Nat) (k i : Nat) : (refs ids k i).length = i := by simp [refs]
theorem refs_succ (ids : Nat → Nat) (k i : Nat) : refs ids k (i + 1) = refs ids k i ++ [V.sl (ids i) 0 0 k] := by
  unfold refs; rw [List.range_succ]; simp
theorem refs_congr {ids ids' : Nat → Nat} {k i : Nat} (h : ∀ j, j < i → ids j = ids' j) : refs ids k i = refs ids' k i := by
  unfold refs
  exact List.map_congr_left fun j hj => by rw [h j (List.mem_range.1 hj)]
theorem refs_exp {H : Nat → Option Ob} {ids : Nat → Nat} {k d : Nat} {M : Nat → Nat → Int} : ∀ n, (∀ j, j < n → H (ids j) = some ⟨0, 2, 1, (tab k (M j)).map (V.int .i64)⟩) →
    (refs ids k n).mapM (expN H (d + 2)) = some ((List.range n).map fun j => UV (tab k (M j)))
  | 0, _ => rfl
  | n + 1, h => by
    have e : expN H (d + 2) (.sl (ids n) 0 0 k) = some (UV (tab k (M n))) := by
      simp only [expN, getO, h n (by omega), if_true]
      rw [if_pos (by simp [tab_len])]
      simp only [Nat.mul_one]
      rw [List.take_of_length_le (by simp [tab_len]), mapM_expN_int]
      unfold UV
      rw [tab_len]; rfl
    rw [refs_succ, List.mapM_append, refs_exp n fun j hj => h j (by omega), List.range_succ, List.map_append]
    simp only [List.mapM_cons, List.mapM_nil, e]
    rfl
theorem refs_eid {H : Nat → Option Ob} {ids : Nat → Nat} {k d : Nat} {M : Nat → Nat → Int} : ∀ n, (∀ j, j < n → H (ids j) = some ⟨0, 2, 1, (tab k (M j)).map (V.int .i64)⟩) →
    (refs ids k n).flatMap (eidN H (d + 2)) = (List.range n).map ids
  | 0, _ => rfl
  | n + 1, h => by
    have e : eidN H (d + 2) (.sl (ids n) 0 0 k) = [ids n] := by
      simp only [eidN, getO, h n (by omega), if_true]
      simp only [Nat.mul_one]
      rw [List.take_of_length_le (by simp [tab_len]), flatMap_eidN_int]
    rw [refs_succ, List.flatMap_append, refs_eid n fun j hj => h j (by omega), List.range_succ, List.map_append]
    simp [e]
theorem nodupB_refs {ids : Nat → Nat} : ∀ n, (∀ j j', j < n → j' < n → ids j = ids j' → j = j') → nodupB ((List.range n).map ids) = true := by
  have key : ∀ L : List Nat, L.Nodup → nodupB L = true := fun L => by
    induction L with
    | nil => intro _; rfl
    | cons x xs ih =>
      intro h
      rw [List.nodup_cons] at h
      simp only [nodupB, Bool.and_eq_true, Bool.not_eq_true']
      exact ⟨by simpa using h.1, ih h.2⟩
  intro n h
  refine key _ ?_
  clear key
  induction n with
  | zero => simp
  | succ n ih =>
    rw [List.range_succ, List.map_append, List.nodup_append]
    refine ⟨ih fun j j' hj hj' => h j j' (by omega) (by omega), by simp, ?_⟩
    intro x hx y hy
    simp only [List.map_cons, List.map_nil, List.mem_singleton] at hy
    simp only [List.mem_map, List.mem_range] at hx
    obtain ⟨j, hj, rfl⟩ := hx
    subst hy
    intro e
    have := h j n (by omega) (by omega) e
    omega
theorem run_l02Hankel (p : Int) (l : List Int) (k : Nat) (hp : 2 ≤ p ∧ p ≤ 10007) (hk1 : 1 ≤ k) (hk : 2 * k ≤ l.length + 1) (hl : l.length ≤ 100) (hr : ∀ i, i < l.length → 0 ≤ rdI l i ∧ rdI l i < p) (hok : okN p k k (hkM l)) :
    runv E2 158 [(V.agg [V.int .i64 (p), (V.list (List.length (l)) (List.map (V.int .i64) (l)))]), .int .i64 (k : Int)] = some ⟨true, .int .i64 (dtN p k k (hkM l) 1), [.agg [.undef, .undef], .undef]⟩ := by
  have cdk : codeOk Try.f158.ntmps (Try.f158.body.getD .skip) = true := by kernel_rfl
  refine run_of_WL (E := E2) (fn := Try.f158) rfl Try.func158 rfl ⟨by simp [Try.ntmps158], by simp [wideA, ints], cdk, by simp [Try.f158]⟩ ?_
  simp [go_sem, -map_replicate, -map_set, -map_append, -map_reverse, -map_take, -map_drop, -map_tail, -any_map, -all_map, -mapM_map, -map_map, bitvec_to_nat, zR, slR, undR, apR]
  repeat refine ⟨by kernel_rfl, by kernel_rfl, ?_⟩
  rw [WL_loop]
  refine WL_count (I := fun i st => ∃ ids : Nat → Nat, st.fr 1 = .int .i64 (k : Int) ∧ st.fr 2 = .ptr 16 0 0 ∧ st.fr 6 = .int .i64 (i : Int) ∧ st.H 16 = some (⟨0, 1, 1, [.int .i64 p, (V.list (List.length (l)) (List.map (V.int .i64) (l)))]⟩) ∧ 16 < st.nx ∧ ((i = 0 ∧ st.fr 5 = .nils) ∨ ∃ id ver, st.fr 5 = .sl id ver 0 i ∧ st.H id = some ⟨ver, 2, 1, refs ids k i⟩ ∧ id < st.nx ∧ 16 < id ∧ ∀ j, j < i → ids j ≠ id) ∧
    (∀ j, j < i → st.H (ids j) = some ⟨0, 2, 1, (tab k (hkM l j)).map (V.int .i64)⟩ ∧ ids j < st.nx ∧ 16 < ids j) ∧ (∀ j j', j < i → j' < i → ids j = ids j' → j = j')) k ?_ ?_ 0 _ (by omega) ?_
  · rintro i st hi ⟨ids, he0, he1, he2, he3, he4, hrows, hids, hinj⟩ next
    have tk : List.take k (List.drop i (List.map (V.int .i64) l)) = List.map (V.int .i64) (tab k (hkM l i)) := by
      rw [← List.map_drop, ← List.map_take]
      congr 1
      refine eq_tab (by simp; omega) fun t ht => ?_
      rw [rdI_take ht]
      unfold hkM rdI
      simp
    have lt := tab_len k (hkM l i)
    have g1 := upS (run_l01Own (tab k (hkM l i)) (by omega))
    rw [lt] at g1
    have ki : (i : Int) < (k : Int) := by omega
    have i0 : (0 : Int) ≤ (i : Int) := by omega
    have w1 : IntKind.i64.wrap ((i : Int) + k) = ((i + k : Nat) : Int) := by rw [IntWalk.i64_in _ (by omega)]; omega
    have w2 : IntKind.i64.wrap ((i : Int) + 1) = (i : Int) + 1 := IntWalk.i64_in _ (by omega)
    have kl : i + k ≤ l.length := by omega
    have kl2 : ((i + k : Nat) : Int) ≤ l.length := by omega
    have kl3 : (i : Int) ≤ ((i + k : Nat) : Int) := by omega
    have e9 : i + k - i = k := by omega
    have s0 : (0 : Int) ≤ (i : Int) + (k : Int) := by omega
    have s1 : ((i : Int) + (k : Int)).toNat = i + k := by omega
    have n1 := ne_new he4
    rcases hrows with ⟨rfl, h5⟩ | ⟨id, ver, h5, hH, hx, hlo, hne⟩
    · have kn : 0 < k := by omega
      have k00 : (0 : Int) ≤ (k : Int) := by omega
      have w1' : IntKind.i64.wrap (k : Int) = k := IntWalk.i64_in _ (by omega)
      have kl' : k ≤ l.length := by omega
      have kl2' : (k : Int) ≤ l.length := by omega
      rw [List.drop_zero] at tk
      generalize hT : tab k (hkM l 0) = T at *
      simp [go_sem, -map_replicate, -map_set, -map_append, -map_reverse, -map_take, -map_drop, -map_tail, -any_map, -all_map, -mapM_map, -map_map, slL, szI, ldI, zI, undL, apL, setI, rdI_get, Nat.add_one_le_iff, fillV, zeros1, zeros0, appendD, segV, lvO, goneOf, sliceD, bound, Nat.add_assoc, he0, he1, he2, he3, szL, ldL, setCs0, setCs1, setCs2, setCsA2, setCsA3, ldM, fM0, fM1, szM, zM, plM0, plM1, agM, paM, ldJ, fJ0, fJ1, fJ2, szJ, zJ, plJ0, plJ1, plJ2, agJ, paJ, h5, kn, k00, w1', kl', kl2', wz1, tk, lt, g1, n1, zR, zerosR, slR, undR, apR]
      repeat refine ⟨by kernel_rfl, by kernel_rfl, ?_⟩
      refine next _ ⟨fun _ => st.nx + 704, by simp [upd, he0], by simp [upd, he1], by simp [upd], by simp [upd, he3, n1], by simp <;> omega, Or.inr ⟨st.nx + 832, 0, by simp [upd], by simp [upd, refs, List.range_succ], by simp, by have := he4; omega, fun j hj => by simp⟩, fun j hj => ⟨?_, by simp, by have := he4; show 16 < st.nx + 704; omega⟩, fun j j' hj hj' _ => by omega⟩
      obtain rfl : j = 0 := by omega
      rw [hT]
      simp [upd]
    · have c3 : (i + 1) * 24 ≤ 140737488355328 := by omega
      have lR := refs_len ids k i
      have q1 : ¬ 16 = id := by omega
      have q2 : ¬ id = 16 := by omega
      generalize hT : tab k (hkM l i) = T at *
      simp [go_sem, -map_replicate, -map_set, -map_append, -map_reverse, -map_take, -map_drop, -map_tail, -any_map, -all_map, -mapM_map, -map_map, slL, szI, ldI, zI, undL, apL, setI, rdI_get, Nat.add_one_le_iff, fillV, zeros1, zeros0, appendD, segV, lvO, goneOf, sliceD, bound, Nat.add_assoc, he0, he1, he2, he3, szL, ldL, setCs0, setCs1, setCs2, setCsA2, setCsA3, ldM, fM0, fM1, szM, zM, plM0, plM1, agM, paM, ldJ, fJ0, fJ1, fJ2, szJ, zJ, plJ0, plJ1, plJ2, agJ, paJ, h5, hH, ki, i0, s0, s1, w1, w2, kl, kl2, kl3, tk, lt, g1, e9, n1, c3, lR, q1, q2, ne_new hx, new_ne hx, zR, zerosR, slR, undR, apR]
      repeat refine ⟨by kernel_rfl, by kernel_rfl, ?_⟩
      obtain ⟨ids', f2, f1⟩ : ∃ ids' : Nat → Nat, ids' i = st.nx + 704 ∧ ∀ j, j < i → ids' j = ids j := ⟨fun j => if j = i then st.nx + 704 else ids j, if_pos rfl, fun j hj => if_neg (by omega)⟩
      refine next _ ⟨ids', by simp [upd, he0], by simp [upd, he1], by simp [upd], by simp [upd, he3, n1, q1], by simp <;> omega, Or.inr ⟨id, ver + 1, by simp [upd], ?_, by simp <;> omega, hlo, fun j hj => ?_⟩, fun j hj => ?_, fun j j' hj hj' he => ?_⟩
      · rw [refs_succ, f2, refs_congr (ids := ids') (ids' := ids) f1]
        simp [upd]
      · by_cases c : j = i
        · rw [c, f2]; omega
        · rw [f1 j (by omega)]; exact hne j (by omega)
      · by_cases c : j = i
        · rw [c, f2, hT]
          have m1 : ¬ st.nx + 704 = id := by omega
          refine ⟨by simp [upd, m1], by simp, by omega⟩
        · rw [f1 j (by omega)]
          obtain ⟨g2, g3, g4⟩ := hids j (by omega)
          have m1 := hne j (by omega)
          have m2 : ¬ ids j = st.nx + 704 := by omega
          have m3 : ¬ ids j = st.nx + 768 := by omega
          refine ⟨by simp [upd, m1, m2, m3, g2], by simp <;> omega, g4⟩
      · by_cases c : j = i
        · by_cases c' : j' = i
          · omega
          · rw [c, f2, f1 j' (by omega)] at he
            have := (hids j' (by omega)).2.1
            omega
        · by_cases c' : j' = i
          · rw [c', f2, f1 j (by omega)] at he
            have := (hids j (by omega)).2.1
            omega
          · rw [f1 j (by omega), f1 j' (by omega)] at he
            exact hinj j j' (by omega) (by omega) he
  · rintro st ⟨ids, he0, he1, he2, he3, he4, hrows, hids, hinj⟩
    rcases hrows with ⟨h0, _⟩ | ⟨id, ver, h5, hH, hx, hlo, hne⟩
    · omega
    · have hd := upS (run_l02Det p k (hkM l) hp (by omega) (hkM_rng hr hk) hok)
      have lR := refs_len ids k k
      have tR : List.take k (refs ids k k) = refs ids k k := List.take_of_length_le (by omega)
      have x1 := refs_exp (H := st.H) (d := 3) k fun j hj => (hids j hj).1
      rw [show ((List.range k).map fun j => UV (tab k (hkM l j))) = (rowsM k (hkM l)).map UV by unfold rowsM; rw [List.map_map]; rfl] at x1
      have x2 := refs_eid (H := st.H) (d := 3) k fun j hj => (hids j hj).1
      have x3 := nodupB_refs k hinj
      have x4 : (id ∈ (List.range k).map ids) = False := by
        simp only [List.mem_map, List.mem_range, eq_iff_iff, iff_false]
        rintro ⟨j, hj, hj2⟩
        exact hne j hj hj2
      generalize (List.range k).map ids = L at *
      generalize refs ids k k = R at *
      simp [go_sem, -map_replicate, -map_set, -map_append, -map_reverse, -map_take, -map_drop, -map_tail, -any_map, -all_map, -mapM_map, -map_map, slL, szI, ldI, zI, undL, apL, setI, rdI_get, Nat.add_one_le_iff, fillV, zeros1, zeros0, appendD, segV, lvO, goneOf, sliceD, bound, Nat.add_assoc, he0, he1, he2, he3, szL, ldL, setCs0, setCs1, setCs2, setCsA2, setCsA3, ldM, fM0, fM1, szM, zM, plM0, plM1, agM, paM, ldJ, fJ0, fJ1, fJ2, szJ, zJ, plJ0, plJ1, plJ2, agJ, paJ, h5, hH, hd, lR, tR, x1, x2, x3, x4, zR, slR, undR]
      repeat refine ⟨by kernel_rfl, by kernel_rfl, ?_⟩
      simp [mvcgen_simp, -map_replicate, -map_set, -map_append, -map_reverse, -map_take, -map_drop, -map_tail, -any_map, -all_map, -mapM_map, -map_map, Try.f158, he0, he1, he2, he3]
  · refine ⟨fun _ => 0, ?_⟩
    simp [upd]
end Go.Proofs.Ytacfkfdnncgjcaa.Ev

set_option linter.unusedSimpArgs false
set_option linter.unusedVariables false
namespace Go.Proofs.Ytacfkfdnncgjcaa.Ev
open Go Go.Proofs
open List (map_replicate map_set map_append map_reverse map_take map_drop map_tail any_map all_map mapM_map map_map)
set_option maxRecDepth 4000
set_option maxHeartbeats 4000000
attribute [local bitvec_to_nat] slL szI ldI zI undL apL setI rdI_get Nat.add_one_le_iff fillV zeros1 zeros0 appendD segV lvO goneOf sliceD bound Nat.add_assoc szL ldL setCs0 setCs1 setCs2 setCsA2 setCsA3 ldM fM0 fM1 szM zM plM0 plM1 agM paM ldJ fJ0 fJ1 fJ2 szJ zJ plJ0 plJ1 plJ2 agJ paJ

theorem hank_step {p : Int} {a b : List Int} (hj : jacB p a b = true) {n c : Nat} {M : Nat → Nat → Int} (hc : c < a.length) (hcn : c < n) (hM : ∀ i k, i < n → k < n → (i ≠ a.length ∨ k ≠ a.length) → M i k = Rk p a b (min c i) i k % p) :
    M c c = nrm p b c ∧ ∀ i k, i < n → k < n → (i ≠ a.length ∨ k ≠ a.length) → elP p M c n i k = Rk p a b (min (c + 1) i) i k % p := by
  have c1 : M c c = nrm p b c := by rw [hM c c hcn hcn (by omega), Nat.min_self, Rk_pivot hj hc]
  refine ⟨c1, fun i k hi hk he => ?_⟩
  unfold elP
  by_cases h : c < i
  · rw [if_pos ⟨h, hi⟩]
    unfold elN
    rw [hM i k hi hk he, hM i c hi hcn (by omega), hM c c hcn hcn (by omega), hM c k hcn hk (by omega), Nat.min_self, Nat.min_eq_left (by omega : c ≤ i), Rk_elim hj hc, Nat.min_eq_left (by omega : c + 1 ≤ i)]
  · rw [if_neg (fun q => h q.1), hM i k hi hk he, Nat.min_eq_right (by omega), Nat.min_eq_right (by omega)]
theorem hank_okN {p : Int} {a b : List Int} (hj : jacB p a b = true) (n : Nat) (hn : n ≤ a.length + 1) : ∀ (d : Nat) (M : Nat → Nat → Int), d ≤ n → (∀ i k, i < n → k < n → (i ≠ a.length ∨ k ≠ a.length) → M i k = Rk p a b (min (n - d) i) i k % p) → okN p n d M
  | 0, _, _, _ => trivial
  | d + 1, M, hd, hM => by
    obtain ⟨c, hc⟩ : ∃ c, n - (d + 1) = c := ⟨_, rfl⟩
    rw [hc] at hM
    unfold okN
    rw [hc]
    by_cases h : c < a.length
    · obtain ⟨c1, c2⟩ := hank_step hj h (by omega) hM
      have u := nrm_unit hj c h
      refine ⟨fun h0 => by rw [c1] at h0; omega, fun _ => hank_okN hj n hn d _ (by omega) ?_⟩
      rw [show n - d = c + 1 by omega]
      exact c2
    · refine ⟨fun _ i h1 h2 => by omega, fun _ => ?_⟩
      have : d = 0 := by omega
      subst this; trivial
theorem hank_dtN {p : Int} {a b : List Int} (hj : jacB p a b = true) (n : Nat) (hn : n ≤ a.length) : ∀ (d : Nat) (M : Nat → Nat → Int) (out : Int), d ≤ n → 0 < out ∧ out < p → (∀ i k, i < n → k < n → (i ≠ a.length ∨ k ≠ a.length) → M i k = Rk p a b (min (n - d) i) i k % p) → 0 < dtN p n d M out
  | 0, _, out, _, ho, _ => ho.1
  | d + 1, M, out, hd, ho, hM => by
    obtain ⟨c, hc⟩ : ∃ c, n - (d + 1) = c := ⟨_, rfl⟩
    rw [hc] at hM
    obtain ⟨c1, c2⟩ := hank_step hj (show c < a.length by omega) (show c < n by omega) hM
    have hp := jacB_prime hj
    have u := nrm_unit hj c (by omega)
    have nz := prime_nz (jacB_pr hj) ho u
    have r := mod_small hp (out * nrm p b c)
    unfold dtN
    rw [hc, c1, if_neg (by omega)]
    refine hank_dtN hj n hn d _ _ (by omega) (by omega) ?_
    rw [show n - d = c + 1 by omega]
    exact c2
/-- A list that begins as the moments of data: all Hankel matrices but a last number are told by the data. -/
theorem hank_of {p : Int} {a b : List Int} (hj : jacB p a b = true) {l : List Int} (hl : ∀ t, t < 2 * a.length → rdI l t = mo p a b t) {n : Nat} (hn : n ≤ a.length + 1) :
    ∀ i k, i < n → k < n → (i ≠ a.length ∨ k ≠ a.length) → hkM l i k = Rk p a b (min (n - n) i) i k % p := fun i k hi hk he => by
  have hj2 := jacB_len hj
  have hp := jacB_prime hj
  have e : hkM l i k = mo p a b (i + k) := hl (i + k) (by omega)
  rw [e, Nat.sub_self, Nat.min_eq_left (Nat.zero_le _)]
  have z := Rk_zero (p := p) a b (by omega) i k
  rw [← z.mod (by omega)]
  have m : 0 ≤ mo p a b (i + k) ∧ mo p a b (i + k) < p := mod_small hp _
  exact (Int.emod_eq_of_lt m.1 m.2).symm
theorem hank_ok {p : Int} {a b : List Int} (hj : jacB p a b = true) {l : List Int} (hl : ∀ t, t < 2 * a.length → rdI l t = mo p a b t) {n : Nat} (hn : n ≤ a.length + 1) : okN p n n (hkM l) :=
  hank_okN hj n hn n _ (Nat.le_refl _) (hank_of hj hl hn)
theorem hank_nz {p : Int} {a b : List Int} (hj : jacB p a b = true) {l : List Int} (hl : ∀ t, t < 2 * a.length → rdI l t = mo p a b t) {n : Nat} (hn : n ≤ a.length) : dtN p n n (hkM l) 1 ≠ 0 := by
  have hp := jacB_prime hj
  have := hank_dtN hj n hn n _ 1 (Nat.le_refl _) ⟨by omega, by omega⟩ (hank_of hj hl (by omega))
  omega
end Go.Proofs.Ytacfkfdnncgjcaa.Ev

set_option linter.unusedSimpArgs false
set_option linter.unusedVariables false
namespace Go.Proofs.Ytacfkfdnncgjcaa.Ev
open Go Go.Proofs
open List (map_replicate map_set map_append map_reverse map_take map_drop map_tail any_map all_map mapM_map map_map)
set_option maxRecDepth 4000
set_option maxHeartbeats 4000000
attribute [local bitvec_to_nat] slL szI ldI zI undL apL setI rdI_get Nat.add_one_le_iff fillV zeros1 zeros0 appendD segV lvO goneOf sliceD bound Nat.add_assoc szL ldL setCs0 setCs1 setCs2 setCsA2 setCsA3 ldM fM0 fM1 szM zM plM0 plM1 agM paM ldJ fJ0 fJ1 fJ2 szJ zJ plJ0 plJ1 plJ2 agJ paJ

/-- Path weights tell no numbers of data that the paths do not reach. -/
theorem wA_same {p : Int} (hp : 2 ≤ p ∧ p ≤ 10007) {a b a' b' : List Int} {n e r r' : Nat} (he : e ≤ 1) (hr : n + e ≤ r) (hr' : n + e ≤ r') (ha : ∀ i, i < n → rdI a i = rdI a' i) (hb : ∀ i, i < n + e → rdI b i = rdI b' i) :
    ∀ t j, j < n + e → t + j < 2 * n + e → cg p (wA p a b r 0 t j) (wA p a' b' r' 0 t j)
  | 0, j, hj, _ => by rw [wA_zero p a b j (by omega), wA_zero p a' b' j (by omega)]; exact cg.refl _ _
  | t + 1, j, hj, h => by
    refine (wA_next a b 0 t (show j < r by omega)).trans (cg.trans ?_ (wA_next a' b' 0 t (show j < r' by omega)).symm)
    have ih := wA_same hp he hr hr' ha hb t
    refine cg.add (cg.add ?_ ?_) ?_
    · by_cases c : j < n
      · rw [ha j c]; exact cg.mulL _ (ih j hj (by omega))
      · rw [wA_high hp a b r t j (by omega), wA_high hp a' b' r' t j (by omega)]; exact cg.of_eq (by omega)
    · refine cg.ite (fun _ => ih (j - 1) (by omega) (by omega)) (fun _ => cg.refl _ _)
    · by_cases c : j + 1 < n + e
      · rw [if_pos (by omega), if_pos (by omega), hb _ c]; exact cg.mulL _ (ih (j + 1) c (by omega))
      · rw [wA_high hp a b r t (j + 1) (by omega), wA_high hp a' b' r' t (j + 1) (by omega)]
        simp only [Int.mul_zero, ite_self]; exact cg.refl _ _
theorem rdI_appL {a : List Int} {i : Nat} (x : Int) (h : i < a.length) : rdI (a ++ [x]) i = rdI a i := by
  unfold rdI; rw [List.getD_eq_getElem?_getD, List.getD_eq_getElem?_getD, List.getElem?_append_left h]
theorem rdI_appR (a : List Int) (x : Int) : rdI (a ++ [x]) a.length = x := by simp [rdI]
theorem nrm_appL {p y : Int} {b : List Int} : ∀ k, k < b.length → nrm p (b ++ [y]) k = nrm p b k
  | 0, h => rdI_appL y h
  | k + 1, h => by rw [nrm, nrm, rdI_appL y h, nrm_appL k (by omega)]
theorem mo_fst {p : Int} (hp : 2 ≤ p ∧ p ≤ 10007) (a b : List Int) (h0 : 0 < a.length) (t : Nat) : cg p (mo p a b t) (rdI b 0 * wA p a b a.length 0 t 0) := by
  have e : cg p (mo p a b t) (rdI b 0 * mA p a b t 0) := cg.md p _
  rw [mA_wA hp a b h0] at e
  exact e
theorem mo_appL {p x y : Int} (hp : 2 ≤ p ∧ p ≤ 10007) {a b : List Int} (h0 : 0 < a.length) (hb : b.length = a.length) {t : Nat} (ht : t < 2 * a.length) : mo p (a ++ [x]) (b ++ [y]) t = mo p a b t := by
  have r1 : 0 ≤ mo p (a ++ [x]) (b ++ [y]) t ∧ mo p (a ++ [x]) (b ++ [y]) t < p := mod_small hp _
  have r2 : 0 ≤ mo p a b t ∧ mo p a b t < p := mod_small hp _
  refine cg.eq (by omega) ((mo_fst hp _ _ (by simp) t).trans (cg.trans ?_ (mo_fst hp a b h0 t).symm)) r1 r2
  rw [rdI_appL y (by omega)]
  exact cg.mulL _ (wA_same hp (n := a.length) (e := 0) (by omega) (by simp) (by omega) (fun i hi => rdI_appL x hi) (fun i hi => rdI_appL y (by omega)) t 0 (by omega) (by omega))
theorem wA_appL {p x y : Int} (hp : 2 ≤ p ∧ p ≤ 10007) {a b : List Int} (hb : b.length = a.length) {t j : Nat} (hj : j < a.length) (ht : t + j < 2 * a.length) : cg p (wA p (a ++ [x]) (b ++ [y]) (a.length + 1) 0 t j) (wA p a b a.length 0 t j) :=
  wA_same hp (n := a.length) (e := 0) (by omega) (by omega) (by omega) (fun i hi => rdI_appL x hi) (fun i hi => rdI_appL y (by omega)) t j (by omega) (by omega)
/-- The number of moments that tells the next Beta. -/
theorem mo_even {p x y : Int} (hp : 2 ≤ p ∧ p ≤ 10007) {a b : List Int} (h0 : 0 < a.length) (hb : b.length = a.length) : cg p (mo p (a ++ [x]) (b ++ [y]) (a.length + a.length)) (mo p a b (a.length + a.length) + nrm p (b ++ [y]) a.length) := by
  refine (Rk_zero (p := p) (a ++ [x]) (b ++ [y]) (by simp) a.length a.length).trans (cg.trans ?_ ((Rk_zero (p := p) a b h0 a.length a.length).symm.add (cg.refl _ _)))
  unfold Rk
  rw [show (a ++ [x]).length = a.length + 1 by simp, sm]
  refine cg.add (sm_cg fun j hj => ?_) ?_
  · simp only [Nat.zero_le, if_true]
    rw [nrm_appL j (by omega)]
    have w := wA_appL (x := x) (y := y) hp hb (t := a.length) hj (by omega)
    exact w.mul (cg.mulL _ w)
  · simp only [Nat.zero_le, if_true]
    have d := wA_diag hp (a ++ [x]) (b ++ [y]) a.length (by simp)
    rw [show (a ++ [x]).length = a.length + 1 by simp] at d
    rw [d]; exact cg.of_eq (by omega)
/-- The number of moments that tells the next Alpha. -/
theorem mo_odd {p y : Int} (x : Int) (hp : 2 ≤ p ∧ p ≤ 10007) {a b : List Int} (h0 : 0 < a.length) (hb : b.length = a.length) : cg p (mo p (a ++ [x]) (b ++ [y]) (a.length + (a.length + 1))) (mo p (a ++ [0]) (b ++ [y]) (a.length + (a.length + 1)) + nrm p (b ++ [y]) a.length * x) := by
  refine (Rk_zero (p := p) (a ++ [x]) (b ++ [y]) (by simp) a.length (a.length + 1)).trans (cg.trans ?_ ((Rk_zero (p := p) (a ++ [0]) (b ++ [y]) (by simp) a.length (a.length + 1)).symm.add (cg.refl _ _)))
  unfold Rk
  rw [show (a ++ [x]).length = a.length + 1 by simp, show (a ++ [(0 : Int)]).length = a.length + 1 by simp, sm, sm]
  have same : ∀ t j, j < a.length + 1 → t + j < 2 * a.length + 1 → cg p (wA p (a ++ [x]) (b ++ [y]) (a.length + 1) 0 t j) (wA p (a ++ [0]) (b ++ [y]) (a.length + 1) 0 t j) := wA_same hp (n := a.length) (e := 1) (by omega) (by omega) (by omega) (fun i hi => by rw [rdI_appL x hi, rdI_appL 0 hi]) (fun i _ => rfl)
  have s1 : cg p (sm (fun j => if 0 ≤ j then wA p (a ++ [x]) (b ++ [y]) (a.length + 1) 0 a.length j * (nrm p (b ++ [y]) j * wA p (a ++ [x]) (b ++ [y]) (a.length + 1) 0 (a.length + 1) j) else 0) a.length)
      (sm (fun j => if 0 ≤ j then wA p (a ++ [0]) (b ++ [y]) (a.length + 1) 0 a.length j * (nrm p (b ++ [y]) j * wA p (a ++ [0]) (b ++ [y]) (a.length + 1) 0 (a.length + 1) j) else 0) a.length) := sm_cg fun j hj => by
    simp only [Nat.zero_le, if_true]
    exact (same a.length j (by omega) (by omega)).mul (cg.mulL _ (same (a.length + 1) j (by omega) (by omega)))
  have d1 := wA_diag hp (a ++ [x]) (b ++ [y]) a.length (by simp)
  have d2 := wA_diag hp (a ++ [0]) (b ++ [y]) a.length (by simp)
  rw [show (a ++ [x]).length = a.length + 1 by simp] at d1
  rw [show (a ++ [(0 : Int)]).length = a.length + 1 by simp] at d2
  simp only [Nat.zero_le, if_true] at s1 ⊢
  rw [d1, d2]
  have e1 := wA_next (p := p) (a ++ [x]) (b ++ [y]) (r := a.length + 1) 0 a.length (j := a.length) (by omega)
  have e2 := wA_next (p := p) (a ++ [0]) (b ++ [y]) (r := a.length + 1) 0 a.length (j := a.length) (by omega)
  rw [d1, rdI_appR, if_pos h0, if_neg (by omega)] at e1
  rw [d2, rdI_appR, if_pos h0, if_neg (by omega)] at e2
  have e3 := same a.length (a.length - 1) (by omega) (by omega)
  have e4 : cg p (wA p (a ++ [x]) (b ++ [y]) (a.length + 1) 0 (a.length + 1) a.length) (x + wA p (a ++ [0]) (b ++ [y]) (a.length + 1) 0 (a.length + 1) a.length) := by
    refine e1.trans (((cg.refl _ _).add e3).add (cg.refl _ _) |>.trans (cg.trans (cg.of_eq ?_) ((cg.refl p x).add e2.symm)))
    omega
  have e5 := cg.mulL (nrm p (b ++ [y]) a.length) e4
  refine (s1.add (cg.mulL 1 e5)).trans (cg.of_eq ?_)
  grind
/-- What is left of the last number when all columns but the last have been cleared. -/
theorem hank_last {p : Int} {a b : List Int} (hj : jacB p a b = true) (D : Int) : ∀ (d : Nat) (M : Nat → Nat → Int) (out : Int), d ≤ a.length → (∀ i k, i < a.length + 1 → k < a.length + 1 → (i ≠ a.length ∨ k ≠ a.length) → M i k = Rk p a b (min (a.length - d) i) i k % p) →
    (0 ≤ M a.length a.length ∧ M a.length a.length < p) → cg p (M a.length a.length) (Rk p a b (a.length - d) a.length a.length + D) → dtN p (a.length + 1) (d + 1) M out ≠ 0 → ¬ cg p D 0
  | 0, M, out, _, hM, hr, hD, h => fun hz => by
    have hp := jacB_prime hj
    have z : Rk p a b (a.length - 0) a.length a.length = 0 := by
      unfold Rk
      rw [sm_congr (g := fun _ => 0) fun j hj => if_neg (by omega), sm_zero]
    rw [z] at hD
    have e := cg.eq (by omega) (hD.trans ((cg.refl p 0).add hz)) hr (by omega)
    unfold dtN at h
    rw [show a.length + 1 - (0 + 1) = a.length by omega, if_pos (by omega)] at h
    exact h rfl
  | d + 1, M, out, hd, hM, hr, hD, h => by
    have hp := jacB_prime hj
    obtain ⟨c, hc⟩ : ∃ c, a.length - (d + 1) = c := ⟨_, rfl⟩
    have hca : c < a.length := by omega
    rw [hc] at hM hD
    obtain ⟨c1, c2⟩ := hank_step hj hca (show c < a.length + 1 by omega) hM
    have u := nrm_unit hj c hca
    unfold dtN at h
    rw [show a.length + 1 - (d + 1 + 1) = c by omega, c1, if_neg (by omega)] at h
    have e1 : elP p M c (a.length + 1) a.length a.length = (M a.length a.length - ((M a.length c * invP p (M c c)) % p) * M c a.length) % p := by
      unfold elP
      rw [if_pos ⟨hca, by omega⟩]; rfl
    refine hank_last hj D d _ _ (by omega) (by rw [show a.length - d = c + 1 by omega]; exact c2) ?_ ?_ h
    · rw [e1]; exact mod_small hp _
    · rw [e1, hM a.length c (by omega) (by omega) (by omega), hM c c (by omega) (by omega) (by omega), hM c a.length (by omega) (by omega) (by omega), Nat.min_eq_left (by omega : c ≤ a.length), Nat.min_self, show a.length - d = c + 1 by omega]
      have E := cg.iff_mod (Rk_elim hj hca a.length a.length)
      have E2 : cg p (Rk p a b c a.length a.length - ((Rk p a b c a.length c % p * invP p (Rk p a b c c c % p)) % p) * (Rk p a b c c a.length % p)) (Rk p a b (c + 1) a.length a.length) := by
        have E3 := (((cg.md p (Rk p a b c a.length a.length)).symm.sub (cg.refl p (((Rk p a b c a.length c % p * invP p (Rk p a b c c c % p)) % p) * (Rk p a b c c a.length % p)))).trans E)
        exact E3
      refine (cg.md p _).trans ((hD.sub (cg.refl _ _)).trans ((cg.of_eq ?_).trans (E2.add (cg.refl p D))))
      omega
theorem jacB_app {p x y : Int} {a b : List Int} (h : jacB p a b = true) (hl : a.length ≤ 11) (hx : 0 ≤ x ∧ x < p) (hy : 1 ≤ y ∧ y < p) : jacB p (a ++ [x]) (b ++ [y]) = true := by
  simp only [jacB, upTo, Bool.and_eq_true, decide_eq_true_eq, List.all_append, List.length_append, List.length_cons, List.length_nil, List.all_cons, List.all_nil, hasB, unitB, Bool.and_true] at h ⊢
  refine ⟨⟨⟨⟨h.1.1.1.1, ?_⟩, ?_⟩, h.1.2, ?_⟩, h.2, ?_⟩ <;> omega
/-- One number of each kind more. -/
theorem data_next {p : Int} {a b l : List Int} (hj : jacB p a b = true) (hn : a.length ≤ 11) (hf : fine p l) (hl : ∀ t, t < 2 * a.length → rdI l t = mo p a b t) (hd : dtN p (a.length + 1) (a.length + 1) (hkM l) 1 ≠ 0) :
    ∃ x y, jacB p (a ++ [x]) (b ++ [y]) = true ∧ ∀ t, t < 2 * (a.length + 1) → rdI l t = mo p (a ++ [x]) (b ++ [y]) t := by
  have hp := jacB_prime hj
  have hpr := jacB_pr hj
  have hj2 := jacB_len hj
  obtain ⟨m, hm⟩ : ∃ m, a.length = m + 1 := ⟨a.length - 1, by omega⟩
  have z : cg p (rdI l (a.length + a.length)) (Rk p a b (a.length - a.length) a.length a.length + (rdI l (a.length + a.length) - mo p a b (a.length + a.length))) := by
    rw [Nat.sub_self]
    have := (Rk_zero (p := p) a b (by omega) a.length a.length).symm.add (cg.refl p (rdI l (a.length + a.length) - mo p a b (a.length + a.length)))
    exact (cg.of_eq (by omega)).trans this.symm
  have nD := hank_last hj (rdI l (a.length + a.length) - mo p a b (a.length + a.length)) a.length (hkM l) 1 (Nat.le_refl _) (fun i k hi hk he => by
    have := hank_of hj hl (n := a.length + 1) (Nat.le_refl _) i k hi hk he
    rw [Nat.sub_self] at this
    rw [this, Nat.sub_self]) (hf _) z hd
  have um := nrm_unit hj m (by omega)
  obtain ⟨y, hy⟩ : ∃ y, ((rdI l (a.length + a.length) - mo p a b (a.length + a.length)) * invP p (nrm p b m)) % p = y := ⟨_, rfl⟩
  have ry := mod_small hp ((rdI l (a.length + a.length) - mo p a b (a.length + a.length)) * invP p (nrm p b m))
  rw [hy] at ry
  have iy : cg p (nrm p b m * y) (rdI l (a.length + a.length) - mo p a b (a.length + a.length)) := by
    rw [← hy]
    refine (cg.mulL _ (cg.md p _)).trans ?_
    have := cg.mulL (rdI l (a.length + a.length) - mo p a b (a.length + a.length)) (inv_ok hpr um)
    refine (cg.of_eq ?_).trans (this.trans (cg.of_eq (by omega)))
    grind
  have y0 : y ≠ 0 := fun h => nD (by rw [h] at iy; exact iy.symm.trans (cg.of_eq (by omega)))
  have nB : cg p (nrm p (b ++ [y]) a.length) (rdI l (a.length + a.length) - mo p a b (a.length + a.length)) := by
    rw [hm]
    refine (nrm_next_cg p (b ++ [y]) m).trans ?_
    rw [nrm_appL m (by omega), show m + 1 = b.length by omega, rdI_appR]
    rw [show b.length = a.length by omega]
    exact iy
  have hb1 : jacB p (a ++ [0]) (b ++ [y]) = true := jacB_app hj hn (by omega) (by omega)
  have uB := nrm_unit hb1 a.length (by simp)
  obtain ⟨x, hx⟩ : ∃ x, ((rdI l (a.length + (a.length + 1)) - mo p (a ++ [0]) (b ++ [y]) (a.length + (a.length + 1))) * invP p (nrm p (b ++ [y]) a.length)) % p = x := ⟨_, rfl⟩
  have rx := mod_small hp ((rdI l (a.length + (a.length + 1)) - mo p (a ++ [0]) (b ++ [y]) (a.length + (a.length + 1))) * invP p (nrm p (b ++ [y]) a.length))
  rw [hx] at rx
  have ix : cg p (nrm p (b ++ [y]) a.length * x) (rdI l (a.length + (a.length + 1)) - mo p (a ++ [0]) (b ++ [y]) (a.length + (a.length + 1))) := by
    rw [← hx]
    refine (cg.mulL _ (cg.md p _)).trans ?_
    have := cg.mulL (rdI l (a.length + (a.length + 1)) - mo p (a ++ [0]) (b ++ [y]) (a.length + (a.length + 1))) (inv_ok hpr uB)
    refine (cg.of_eq ?_).trans (this.trans (cg.of_eq (by omega)))
    grind
  refine ⟨x, y, jacB_app hj hn rx (by omega), fun t ht => ?_⟩
  have r1 : 0 ≤ mo p (a ++ [x]) (b ++ [y]) t ∧ mo p (a ++ [x]) (b ++ [y]) t < p := mod_small hp _
  by_cases c1 : t < 2 * a.length
  · rw [hl t c1, mo_appL hp (by omega) (by omega) c1]
  · by_cases c2 : t = a.length + a.length
    · subst c2
      refine cg.eq (by omega) (cg.symm ?_) (hf _) r1
      refine (mo_even hp (by omega) (by omega)).trans (((cg.refl _ _).add nB).trans (cg.of_eq (by omega)))
    · obtain rfl : t = a.length + (a.length + 1) := by omega
      refine cg.eq (by omega) (cg.symm ?_) (hf _) r1
      refine (mo_odd x hp (by omega) (by omega)).trans (((cg.refl _ _).add ix).trans (cg.of_eq (by omega)))
theorem data_first {p : Int} {l : List Int} (hpr : primeB p = true) (hf : fine p l) (h0 : rdI l 0 ≠ 0) : ∃ x y, jacB p [x] [y] = true ∧ ∀ t, t < 2 → rdI l t = mo p [x] [y] t := by
  have hp := prime_range hpr
  have r0 := hf 0
  obtain ⟨x, hx⟩ : ∃ x, (rdI l 1 * invP p (rdI l 0)) % p = x := ⟨_, rfl⟩
  have rx := mod_small hp (rdI l 1 * invP p (rdI l 0))
  rw [hx] at rx
  refine ⟨x, rdI l 0, ?_, fun t ht => ?_⟩
  · simp [jacB, upTo, hpr, hasB, unitB]; omega
  · have r1 : 0 ≤ mo p [x] [rdI l 0] t ∧ mo p [x] [rdI l 0] t < p := mod_small hp _
    refine cg.eq (by omega) (cg.symm ?_) (hf _) r1
    refine (cg.md p _ : cg p (mo p [x] [rdI l 0] t) (rdI [rdI l 0] 0 * mA p [x] [rdI l 0] t 0)).trans ?_
    rw [show rdI [rdI l 0] 0 = rdI l 0 from rfl]
    have m0 : mA p [x] [rdI l 0] 0 0 = 1 := by rw [mA_zero p [x] [rdI l 0] (by simp)]; rfl
    by_cases c : t = 0
    · subst c; show cg p (rdI l 0 * mA p [x] [rdI l 0] 0 0) _; rw [m0]; exact cg.of_eq (by omega)
    · obtain rfl : t = 1 := by omega
      have e := mA_next (p := p) [x] [rdI l 0] 0 (i := 0) (by simp)
      rw [m0, if_neg (by simp), if_neg (by simp)] at e
      refine (cg.mulL _ e).trans ?_
      rw [show rdI [x] 0 = x from rfl, ← hx]
      refine (cg.mulL _ (((cg.md p _).mulR 1).add (cg.refl _ 0) |>.add (cg.refl _ 0))).trans ?_
      have := cg.mulL (rdI l 1) (inv_ok hpr (show 0 < rdI l 0 ∧ rdI l 0 < p by omega))
      refine (cg.of_eq ?_).trans (this.trans (cg.of_eq (by omega)))
      grind
/-- Lists whose first n Hankel determinants are not 0 begin as the moments of data. -/
theorem data_of {p : Int} {l : List Int} (hpr : primeB p = true) (hf : fine p l) : ∀ n, n < 12 → (∀ k, k < n + 1 → dtN p (k + 1) (k + 1) (hkM l) 1 ≠ 0) → ∃ a b, jacB p a b = true ∧ a.length = n + 1 ∧ ∀ t, t < 2 * a.length → rdI l t = mo p a b t
  | 0, _, h => by
    have h0 : rdI l 0 ≠ 0 := fun e => h 0 (by omega) (by
      unfold dtN
      rw [if_pos (by exact e)])
    obtain ⟨x, y, h1, h2⟩ := data_first hpr hf h0
    exact ⟨[x], [y], h1, rfl, h2⟩
  | n + 1, hn, h => by
    obtain ⟨a, b, h1, h2, h3⟩ := data_of hpr hf n (by omega) fun k hk => h k (by omega)
    obtain ⟨x, y, h4, h5⟩ := data_next h1 (by omega) hf h3 (by rw [h2]; exact h (n + 1) (by omega))
    exact ⟨a ++ [x], b ++ [y], h4, by simp [h2], by simpa using h5⟩
/-! ### The order -/
def ordN (p : Int) (l : List Int) : Nat := fz (fun k => decide (dtN p (k + 1) (k + 1) (hkM l) 1 = 0)) ((l.length + 1) / 2)
theorem fz_at {f : Nat → Bool} : ∀ {n : Nat}, fz f n < n → f (fz f n) = true
  | n + 1, h => by
    rw [fz] at h ⊢
    by_cases c : fz f n < n
    · rw [if_pos c]; exact fz_at c
    · rw [if_neg c] at h ⊢
      by_cases q : f n = true
      · rw [if_pos q]; exact q
      · rw [if_neg q] at h; omega
theorem fz_lt {f : Nat → Bool} : ∀ {n k : Nat}, k < fz f n → f k = false
  | 0, k, h => by rw [fz] at h; omega
  | n + 1, k, h => by
    rw [fz] at h
    by_cases c : fz f n < n
    · rw [if_pos c] at h; exact fz_lt h
    · have e : fz f n = n := by have := fz_le f n; omega
      rw [if_neg c] at h
      by_cases q : k < n
      · exact fz_lt (by omega : k < fz f n)
      · by_cases q2 : f n = true
        · rw [if_pos q2] at h; omega
        · rw [if_neg q2] at h
          obtain rfl : k = n := by omega
          simpa using q2
theorem ordN_le (p : Int) (l : List Int) : ordN p l ≤ (l.length + 1) / 2 := fz_le _ _
theorem ordN_nz {p : Int} {l : List Int} {k : Nat} (h : k < ordN p l) : dtN p (k + 1) (k + 1) (hkM l) 1 ≠ 0 := by
  exact of_decide_eq_false (fz_lt (f := fun k => decide (dtN p (k + 1) (k + 1) (hkM l) 1 = 0)) h)
theorem ordN_zero {p : Int} {l : List Int} (h : ordN p l < (l.length + 1) / 2) : dtN p (ordN p l + 1) (ordN p l + 1) (hkM l) 1 = 0 := by
  exact of_decide_eq_true (fz_at (f := fun k => decide (dtN p (k + 1) (k + 1) (hkM l) 1 = 0)) h)
theorem ordN_ge {p : Int} {l : List Int} {n : Nat} (hn : n ≤ (l.length + 1) / 2) (h : ∀ k, k < n → dtN p (k + 1) (k + 1) (hkM l) 1 ≠ 0) : n ≤ ordN p l := by
  have h1 := ordN_le p l
  by_cases c : ordN p l < n
  · exact absurd (ordN_zero (by omega)) (h _ c)
  · omega
theorem momB_fine {p : Int} {l : List Int} (h : momB p l = true) : fine p l := fun i => by
  have hp := momB_prime h
  by_cases c : i < l.length
  · exact momB_rd h c
  · rw [rdI_out (by omega)]; omega
theorem momB_pr {p : Int} {l : List Int} (h : momB p l = true) : primeB p = true := by
  simp only [momB, Bool.and_eq_true] at h; exact h.1.1
/-- Moments up to their order are those of data. -/
theorem data_ord {p : Int} {l : List Int} (h : momB p l = true) {n : Nat} (h0 : 1 ≤ n) (hn : n ≤ ordN p l) : ∃ a b, jacB p a b = true ∧ a.length = n ∧ ∀ t, t < 2 * a.length → rdI l t = mo p a b t := by
  have hl := momB_len h
  have h1 := ordN_le p l
  obtain ⟨a, b, h2, h3, h4⟩ := data_of (momB_pr h) (momB_fine h) (n - 1) (by omega) fun k hk => ordN_nz (by omega)
  exact ⟨a, b, h2, by omega, h4⟩
theorem ord_ok {p : Int} {l : List Int} (h : momB p l = true) {n : Nat} (hn : n ≤ ordN p l + 1) : okN p n n (hkM l) := by
  by_cases c : ordN p l = 0
  · rcases n with _ | _ | n
    · trivial
    · exact ⟨fun _ i h1 h2 => by omega, fun _ => trivial⟩
    · omega
  · obtain ⟨a, b, h2, h3, h4⟩ := data_ord h (by omega) (Nat.le_refl _)
    exact hank_ok h2 h4 (by omega)
end Go.Proofs.Ytacfkfdnncgjcaa.Ev

set_option linter.unusedSimpArgs false
set_option linter.unusedVariables false
namespace Go.Proofs.Ytacfkfdnncgjcaa.Ev
open Go Go.Proofs
open List (map_replicate map_set map_append map_reverse map_take map_drop map_tail any_map all_map mapM_map map_map)
set_option maxRecDepth 4000
set_option maxHeartbeats 4000000
attribute [local bitvec_to_nat] slL szI ldI zI undL apL setI rdI_get Nat.add_one_le_iff fillV zeros1 zeros0 appendD segV lvO goneOf sliceD bound Nat.add_assoc szL ldL setCs0 setCs1 setCs2 setCsA2 setCsA3 ldM fM0 fM1 szM zM plM0 plM1 agM paM ldJ fJ0 fJ1 fJ2 szJ zJ plJ0 plJ1 plJ2 agJ paJ

theorem run_l02Order (p : Int) (l : List Int) (hm : momB p l = true) :
    runv E1 149 [(V.agg [V.int .i64 (p), (V.list (List.length (l)) (List.map (V.int .i64) (l)))])] = some ⟨true, .int .i64 (ordN p l : Int), [.agg [.undef, .undef]]⟩ := by
  have hp := momB_prime hm
  have hl := momB_len hm
  have w1 : IntKind.i64.wrap (l.length : Int) = l.length := IntWalk.i64_in _ (by omega)
  have w2 : IntKind.i64.wrap ((l.length : Int) + 1) = l.length + 1 := IntWalk.i64_in _ (by omega)
  obtain ⟨h, hh⟩ : ∃ h : Nat, (l.length + 1) / 2 = h := ⟨_, rfl⟩
  have t1 : ((l.length : Int) + 1).tdiv 2 = (h : Int) := by rw [Int.tdiv_eq_ediv_of_nonneg (by omega)]; omega
  have w3 : IntKind.i64.wrap (h : Int) = h := IntWalk.i64_in _ (by omega)
  have hN := ordN_le p l
  have h2 : ordN p l < h → dtN p (ordN p l + 1) (ordN p l + 1) (hkM l) 1 = 0 := fun c => ordN_zero (by omega)
  have hank : ∀ n : Nat, n < h → n ≤ ordN p l → runv E1 158 [(V.agg [V.int .i64 (p), (V.list (List.length (l)) (List.map (V.int .i64) (l)))]), .int .i64 ((n : Int) + 1)] = some ⟨true, .int .i64 (dtN p (n + 1) (n + 1) (hkM l) 1), [.agg [.undef, .undef], .undef]⟩ := fun n hn hn2 => by
    have r := up2 (run_l02Hankel p l (n + 1) hp (by omega) (by omega) (by omega) (fun i hi => momB_rd hm hi) (ord_ok hm (by omega)))
    rw [show ((n + 1 : Nat) : Int) = (n : Int) + 1 by omega] at r
    exact r
  have h1 : ∀ k, k < ordN p l → dtN p (k + 1) (k + 1) (hkM l) 1 ≠ 0 := fun k hk => ordN_nz hk
  rw [hh] at hN
  generalize ordN p l = N at *
  have cdk : codeOk Try.f149.ntmps (Try.f149.body.getD .skip) = true := by kernel_rfl
  refine run_of_WLr (fn := Try.f149) rfl Try.func149 rfl ⟨by simp [Try.ntmps149], by simp [wideA, ints], cdk, by simp [Try.f149]⟩ rfl (by simp [rebOk, noId, adoptT, adoptA, adoptL, adoptC, depth]) ?_
  simp [go_sem, -map_replicate, -map_set, -map_append, -map_reverse, -map_take, -map_drop, -map_tail, -any_map, -all_map, -mapM_map, -map_map, bitvec_to_nat]
  repeat refine ⟨by kernel_rfl, by kernel_rfl, ?_⟩
  rw [WL_loop]
  refine WL_for (keep := [1, 3]) (rs := resM Try.f149) rfl (by kernel_rfl) (fun i => mkSt [(1, .ptr 0 0 0), (3, .int .i64 (i : Int))] [some (⟨0, 1, 1, [.int .i64 p, (V.list (List.length (l)) (List.map (V.int .i64) (l)))]⟩)] (resM Try.f149)) N ?_ ?_ 0 _ (by omega) rfl ?_
  · intro i hi next
    have ih : (i : Int) < (h : Int) := by omega
    have ih2 : i < h := by omega
    have w4 : IntKind.i64.wrap ((i : Int) + 1) = (i : Int) + 1 := IntWalk.i64_in _ (by omega)
    have g1 := hank i (by omega) (by omega)
    have z := h1 i hi
    generalize dtN p (i + 1) (i + 1) (hkM l) 1 = x at *
    simp [go_sem, -map_replicate, -map_set, -map_append, -map_reverse, -map_take, -map_drop, -map_tail, -any_map, -all_map, -mapM_map, -map_map, bitvec_to_nat, undI64, undInt, convD, w1, w2, t1, w3, w4, ih, ih2, g1, z]
    repeat refine ⟨by kernel_rfl, by kernel_rfl, ?_⟩
    refine next _ rfl ?_
    (refine canon_mk ?_; simp [method_specs_simp, ordIds_app, ordRen_app, ordIds_app2, ordRen_app2, -map_replicate, -map_set, -map_append, -map_reverse, -map_take, -map_drop, -map_tail, -map_map])
  · by_cases c : N < h
    · have ih : (N : Int) < (h : Int) := by omega
      have w4 : IntKind.i64.wrap ((N : Int) + 1) = (N : Int) + 1 := IntWalk.i64_in _ (by omega)
      have g1 := hank N c (Nat.le_refl _)
      rw [h2 c] at g1
      simp [go_sem, -map_replicate, -map_set, -map_append, -map_reverse, -map_take, -map_drop, -map_tail, -any_map, -all_map, -mapM_map, -map_map, bitvec_to_nat, undI64, undInt, convD, w1, w2, t1, w3, w4, ih, c, g1]
      repeat refine ⟨by kernel_rfl, by kernel_rfl, ?_⟩
      simp [mvcgen_simp, -map_replicate, -map_set, -map_append, -map_reverse, -map_take, -map_drop, -map_tail, -any_map, -all_map, -mapM_map, -map_map, Try.f149, szL, ldL, setCs0, setCs1, setCs2, setCsA2, setCsA3, ldM, fM0, fM1, szM, zM, plM0, plM1, agM, paM, ldJ, fJ0, fJ1, fJ2, szJ, zJ, plJ0, plJ1, plJ2, agJ, paJ]
    · have ih : ¬ (N : Int) < (h : Int) := by omega
      simp [go_sem, -map_replicate, -map_set, -map_append, -map_reverse, -map_take, -map_drop, -map_tail, -any_map, -all_map, -mapM_map, -map_map, bitvec_to_nat, undI64, undInt, convD, w1, w2, t1, w3, ih, c]
      repeat refine ⟨by kernel_rfl, by kernel_rfl, ?_⟩
      simp [mvcgen_simp, -map_replicate, -map_set, -map_append, -map_reverse, -map_take, -map_drop, -map_tail, -any_map, -all_map, -mapM_map, -map_map, Try.f149, szL, ldL, setCs0, setCs1, setCs2, setCsA2, setCsA3, ldM, fM0, fM1, szM, zM, plM0, plM1, agM, paM, ldJ, fJ0, fJ1, fJ2, szJ, zJ, plJ0, plJ1, plJ2, agJ, paJ]
  · (refine canon_mk ?_; simp [method_specs_simp, ordIds_app, ordRen_app, ordIds_app2, ordRen_app2, -map_replicate, -map_set, -map_append, -map_reverse, -map_take, -map_drop, -map_tail, -map_map])
end Go.Proofs.Ytacfkfdnncgjcaa.Ev
