/- Whether a test holds of all elements of a list, run by the texts. Conditions: none. -/
/- The laws' helpers on lists of whole numbers. Conditions: none. -/
/- Primes, numbers of fields, and lists of them: both texts. Conditions: none. -/
import Derived.Test.YtacfkfdnncgjcaaFnA
set_option linter.unusedSimpArgs false
set_option linter.unusedVariables false
namespace Go.Proofs.Ytacfkfdnncgjcaa.Ev
open Go Go.Proofs
open List (map_replicate map_set map_append map_reverse map_take map_drop map_tail any_map all_map mapM_map map_map)
set_option maxRecDepth 4000
set_option maxHeartbeats 4000000

theorem run_ContainsFunc (l : List Int) (g : FuncId) (cs : List V) (o : Nat) (p : Int → Bool) (hl : l.length ≤ 9223372036854775807) (hc : ∀ H b x, callD H b false (modesOf g) (runv E0 g) (V.int .i64 x :: [V.ref cs o]) = some { v := .bool (p x) }) :
    runv E0 150 [ints l, .func (.func g) [] [.ref cs o]] = some ⟨true, .bool (l.any p), [.undef, .undef]⟩ := by
  have cdk : codeOk Try.f150.ntmps (Try.f150.body.getD .skip) = true := by kernel_rfl
  refine run_of_WL (fn := Try.f150) rfl Try.func150 rfl ⟨by simp [Try.ntmps150], by simp [wideA, ints], cdk, by simp [Try.f150]⟩ ?_
  have h1 := run_IndexFunc l g [] [.ref cs o] p hl hc
  unfold ints at h1
  simp [go_sem, -map_replicate, -map_set, -map_append, -map_reverse, -map_take, -map_drop, -map_tail, -any_map, -all_map, -mapM_map, -map_map, ints, h1]
  simp [mvcgen_simp, -map_replicate, -map_set, -map_append, -map_reverse, -map_take, -map_drop, -map_tail, -any_map, -all_map, -mapM_map, -map_map, Try.f150, ctBool]
  have := index_any l p
  simpa using this

theorem any_not (l : List Int) (p : Int → Bool) : (l.any fun x => !(p x)) = !(l.all p) := by
  induction l with
  | nil => rfl
  | cons a l ih => simp [ih]

/-- The parts of a function value lead to nothing of a frame's own. -/
structure FV (fi ca : List V) : Prop where
  fi3 : ∀ H d, fi.mapM (purN H d) = some fi
  ca3 : ∀ H d, ca.mapM (purN H d) = some ca
  ifi : ∀ H d, fi.flatMap (idsN H d) = []
  ica : ∀ H d, ca.flatMap (idsN H d) = []

theorem run_areAll1 (x : Int) (g : FuncId) (fi ca : List V) (p : Int → Bool) (hc : ∀ H b x, callD H b false (modesOf g) (runv E0 g) (fi ++ V.int .i64 x :: ca) = some { v := .bool (p x) }) :
    runv E0 151 [.int .i64 x, .ref [.func (.func g) fi ca] 0] = some ⟨true, .bool (!(p x)), [.undef, .undef]⟩ := by
  have cdk : codeOk Try.f151.ntmps (Try.f151.body.getD .skip) = true := by kernel_rfl
  refine run_of_WL (fn := Try.f151) rfl Try.func151 rfl ⟨by simp [Try.ntmps151], by simp [wideA, ints], cdk, by simp [Try.f151]⟩ ?_
  simp [WL_nil, WL_seq, WL_region, WL_ret, WL_skip, WL_block, WL_inBlock, WL_cond, WC_t, WC_f, WL_label, WL_exitX, WL_gotoX, WX_some, WL_scope, WL_inScope, WL_regionD, WO_cons, WO_nil, WD_some, WOd_cons, WOd_nil, WDd_some, List.nil_append, List.cons_append, stepD, wantV, opD, ev, V.ofC, V.ofS, ret, binV, intOp, unV, St.app, updO, upd, appW, E0_P, E0_m, E0_s, E1_P, E1_m, E1_s, E2_P, E2_m, E2_s, mkSt_fr, mkSt_H, mkSt_nx, mkSt_rs, lookF, callOp, evL, calleeV, widthOk, wideA, freezeW, depth, noTup, nodupB, treeN, St.enter, exitTo, gotoIn, findLabel, getO, lenV, bltD, loadD, viewN, V.cells, storeD, mvC, expN, eidN, hasU, optE, sliceNil, eqV, isC, isLR, mapM_purN_int, mapM_expN_int, mapM_viewN_int, flatMap_idsN_int, flatMap_eidN_int, any_hasU_int, all_treeN_int, mapM_purN_str, mapM_expN_str, flatMap_idsN_str, flatMap_eidN_str, any_hasU_str, all_treeN_str, ownX, ownI, backO, backL, take_map_full, -map_replicate, -map_set, -map_append, -map_reverse, -map_take, -map_drop, -map_tail, -any_map, -all_map, -mapM_map, -map_map, adoptT, adoptA, adoptC, ldF, hc]
  simp [mvcgen_simp, -map_replicate, -map_set, -map_append, -map_reverse, -map_take, -map_drop, -map_tail, -any_map, -all_map, -mapM_map, -map_map, Try.f151, ctBool]

theorem run_areAll (l : List Int) (g : FuncId) (fi ca : List V) (p : Int → Bool) (hl : l.length ≤ 9223372036854775807) (hf : FV fi ca) (hc : ∀ H b x, callD H b false (modesOf g) (runv E0 g) (fi ++ V.int .i64 x :: ca) = some { v := .bool (p x) }) :
    runv E0 132 [ints l, .func (.func g) fi ca] = some ⟨true, .bool (l.all p), [.undef, .undef]⟩ := by
  have cdk : codeOk Try.f132.ntmps (Try.f132.body.getD .skip) = true := by kernel_rfl
  refine run_of_WL (fn := Try.f132) rfl Try.func132 rfl ⟨by simp [Try.ntmps132], by simp [wideA, ints], cdk, by simp [Try.f132]⟩ ?_
  have h1 := run_ContainsFunc l 151 [.func (.func g) fi ca] 0 (fun x => !(p x)) hl (fun H b x => by
    have := run_areAll1 x g fi ca p hc
    simp [modesOf, callD, prepL, prepA, purN, idsN, depth, this, nodupB, flatO, noTup, backW, widthOk, wideA, adopt, adoptA, adoptC, treeN])
  unfold ints at h1
  simp [go_sem, -map_replicate, -map_set, -map_append, -map_reverse, -map_take, -map_drop, -map_tail, -any_map, -all_map, -mapM_map, -map_map, ints, h1, hf.fi3, hf.ca3, hf.ifi, hf.ica]
  simp [mvcgen_simp, -map_replicate, -map_set, -map_append, -map_reverse, -map_take, -map_drop, -map_tail, -any_map, -all_map, -mapM_map, -map_map, Try.f132, ctBool]
  exact any_not l p

theorem fv_nil : FV [] [] := by
  constructor <;> intros <;> rfl
theorem fv_ref (cs : List V) (o : Nat) : FV [] [.ref cs o] := by
  constructor <;> intro H d <;> cases d <;> rfl
theorem fv_ref2 (cs cs' : List V) (o o' : Nat) : FV [] [.ref cs o, .ref cs' o'] := by
  constructor <;> intro H d <;> cases d <;> rfl
theorem fv_ref3 (cs cs' cs'' : List V) (o o' o'' : Nat) : FV [] [.ref cs o, .ref cs' o', .ref cs'' o''] := by
  constructor <;> intro H d <;> cases d <;> rfl

end Go.Proofs.Ytacfkfdnncgjcaa.Ev

set_option linter.unusedSimpArgs false
set_option linter.unusedVariables false
namespace Go.Proofs.Ytacfkfdnncgjcaa.Ev
open Go Go.Proofs
open List (map_replicate map_set map_append map_reverse map_take map_drop map_tail any_map all_map mapM_map map_map)
set_option maxRecDepth 4000
set_option maxHeartbeats 4000000

theorem rdI_eq {l m : List Int} (h : l.length = m.length) (hk : ∀ j, j < l.length → rdI l j = rdI m j) : l = m := by
  apply List.ext_getElem h
  intro j h1 h2
  rw [rdI_get h1, rdI_get h2]
  exact hk j h1

/-! ### Lists by their elements -/
def tab (n : Nat) (g : Nat → Int) : List Int := (List.range n).map g
theorem tab_len (n : Nat) (g : Nat → Int) : (tab n g).length = n := by simp [tab]
theorem tab_rd {n p : Nat} {g : Nat → Int} (h : p < n) : rdI (tab n g) p = g p := by simp [rdI, tab, h]
theorem tab_ext {n : Nat} {g g' : Nat → Int} (h : ∀ p, p < n → g p = g' p) : tab n g = tab n g' := by
  unfold tab; apply List.map_congr_left; intro p hp; exact h p (by simpa using hp)
theorem tab_self (l : List Int) : tab l.length (rdI l) = l := by
  apply rdI_eq (tab_len _ _)
  intro j hj; rw [tab_len] at hj; exact tab_rd hj
theorem rdI_set {l : List Int} {i p : Nat} {x : Int} (h : p < l.length) : rdI (l.set i x) p = if i = p then x else rdI l p := by
  by_cases e : i = p
  · subst e; simp [rdI, h]
  · simp [rdI, e]
theorem eq_tab {l : List Int} {n : Nat} {g : Nat → Int} (hl : l.length = n) (h : ∀ p, p < n → rdI l p = g p) : l = tab n g := by
  apply rdI_eq (by rw [hl, tab_len])
  intro j hj; rw [hl] at hj; rw [h j hj, tab_rd hj]
theorem tab_set {n k : Nat} {g : Nat → Int} {x : Int} : (tab n g).set k x = tab n (fun p => if k = p then x else g p) := by
  apply eq_tab (by simp [tab_len])
  intro p hp; rw [rdI_set (by rw [tab_len]; exact hp), tab_rd hp]
theorem tab_succ (n : Nat) (g : Nat → Int) : tab (n + 1) g = tab n g ++ [g n] := by unfold tab; rw [List.range_succ]; simp
theorem tab_zero (g : Nat → Int) : tab 0 g = [] := rfl
theorem tab_replicate (n : Nat) (x : Int) : List.replicate n x = tab n (fun _ => x) := by
  apply eq_tab (by simp)
  intro p hp; simp [rdI, hp]
theorem tab_map (n : Nat) (g : Nat → Int) (f : Int → Int) : (tab n g).map f = tab n (fun p => f (g p)) := by simp [tab]

/-- A slot that holds a list of its own that grows: nil, or an object with a number beyond lo. -/
def Grow (kd : IntKind) (lo : Nat) (st : St) (t : Nat) (l : List Int) : Prop :=
  (l = [] ∧ st.fr t = .nils) ∨ ∃ id ver, st.fr t = .sl id ver 0 l.length ∧ st.H id = some ⟨ver, 2, 1, l.map (V.int kd)⟩ ∧ id < st.nx ∧ lo < id
theorem Grow.own {kd : IntKind} {st : St} {lo t id ver : Nat} {l : List Int} (n : Nat) (h : st.fr t = .sl id ver 0 n) (hn : n = l.length) (hH : st.H id = some ⟨ver, 2, 1, l.map (V.int kd)⟩) (hx : id < st.nx) (hlo : lo < id) : Grow kd lo st t l :=
  .inr ⟨id, ver, by rw [h, hn], hH, hx, hlo⟩
theorem Grow.nil {kd : IntKind} {lo : Nat} {st : St} {t : Nat} (h : st.fr t = .nils) : Grow kd lo st t [] := .inl ⟨rfl, h⟩

/-- What a marking leaves. -/
def marks (k : Int) (n : Nat) : List Int := (List.range n).map fun i : Nat => k + (i : Int)
theorem marks_len (k : Int) (n : Nat) : (marks k n).length = n := by simp [marks]
theorem marks_rd {k : Int} {n i : Nat} (h : i < n) : rdI (marks k n) i = k + i := by
  unfold rdI marks; simp [h]
theorem marks_succ (k : Int) (n : Nat) : marks k (n + 1) = marks k n ++ [k + n] := by
  unfold marks; rw [List.range_succ]; simp

end Go.Proofs.Ytacfkfdnncgjcaa.Ev

/- Moments, data, polynomials: what they are, by both texts, and the laws' helpers on them. Conditions: none. -/
/- The laws' helpers on moments and data. Conditions: none. -/
set_option linter.unusedSimpArgs false
set_option linter.unusedVariables false
namespace Go.Proofs.Ytacfkfdnncgjcaa.Ev
open Go Go.Proofs
open List (map_replicate map_set map_append map_reverse map_take map_drop map_tail any_map all_map mapM_map map_map)
set_option maxRecDepth 4000
set_option maxHeartbeats 4000000

/-! ### Primes -/
/-- No number from k on whose square is at most p divides p. -/
def noDiv (p : Int) (k : Nat) : Bool := (List.range 101).all fun j => decide (j < k) || decide (p < (j : Int) * j) || !decide (p.tmod (j : Int) = 0)
def primeB (p : Int) : Bool := decide (2 ≤ p) && decide (p ≤ 10007) && noDiv p 2

theorem noDiv_last {p : Int} {k : Nat} (hp : p ≤ 10007) (h : p < (k : Int) * k) : noDiv p k = true := by
  unfold noDiv
  rw [List.all_eq_true]
  intro j hj
  by_cases h1 : j < k
  · simp [h1]
  · have : (k : Int) * k ≤ (j : Int) * j := Int.mul_le_mul (by omega) (by omega) (by omega) (by omega)
    have : p < (j : Int) * j := by omega
    simp [this]
theorem noDiv_false {p : Int} {k : Nat} (hk : k < 101) (h : ¬ p < (k : Int) * k) (hd : p.tmod (k : Int) = 0) : noDiv p k = false := by
  unfold noDiv
  rw [List.all_eq_false]
  refine ⟨k, by simpa using hk, ?_⟩
  simp [h, hd]
theorem noDiv_next {p : Int} {k : Nat} (hd : ¬ p.tmod (k : Int) = 0) : noDiv p k = noDiv p (k + 1) := by
  unfold noDiv
  apply Bool.eq_iff_iff.2
  rw [List.all_eq_true, List.all_eq_true]
  constructor
  · intro h j hj
    have := h j hj
    by_cases h1 : j < k + 1
    · simp [h1]
    · have h2 : ¬ j < k := by omega
      simpa [h1, h2] using this
  · intro h j hj
    have := h j hj
    by_cases h1 : j < k
    · simp [h1]
    · by_cases h2 : j = k
      · subst h2; simp [hd]
      · have h3 : ¬ j < k + 1 := by omega
        simpa [h1, h3] using this

theorem sq_lt {k : Nat} {p : Int} (hp : p ≤ 10007) (h : ¬ p < (k : Int) * k) : k < 101 := by
  rcases Nat.lt_or_ge k 101 with h1 | h1
  · exact h1
  · have : (101 : Int) * 101 ≤ (k : Int) * k := Int.mul_le_mul (by omega) (by omega) (by omega) (by omega)
    omega

theorem run_l01In' (n lo hi : Int) : runv E0 50 [.int .i64 n, .int .i64 lo, .int .i64 hi] = some ⟨true, .bool (decide (lo ≤ n) && decide (n ≤ hi)), [.undef, .undef, .undef]⟩ := by
  have cdk : codeOk Try.f50.ntmps (Try.f50.body.getD .skip) = true := by kernel_rfl
  refine run_of_WL (fn := Try.f50) rfl Try.func50 rfl ⟨by simp [Try.ntmps50], by simp [wideA, ints], cdk, by simp [Try.f50]⟩ ?_
  by_cases h1 : lo ≤ n <;> simp [go_sem, -map_replicate, -map_set, -map_append, -map_reverse, -map_take, -map_drop, -map_tail, -any_map, -all_map, -mapM_map, -map_map, h1] <;> simp [mvcgen_simp, -map_replicate, -map_set, -map_append, -map_reverse, -map_take, -map_drop, -map_tail, -any_map, -all_map, -mapM_map, -map_map, Try.f50]

theorem run_IsPrime (p : Int) : runv E0 106 [.int .i64 p] = some ⟨true, .bool (primeB p), [.undef]⟩ := by
  have cdk : codeOk Try.f106.ntmps (Try.f106.body.getD .skip) = true := by kernel_rfl
  refine run_of_WL (fn := Try.f106) rfl Try.func106 rfl ⟨by simp [Try.ntmps106], by simp [wideA, ints], cdk, by simp [Try.f106]⟩ ?_
  by_cases hr : 2 ≤ p ∧ p ≤ 10007
  case neg =>
    have h1 : (decide (2 ≤ p) && decide (p ≤ 10007)) = false := by simpa using hr
    simp [go_sem, -map_replicate, -map_set, -map_append, -map_reverse, -map_take, -map_drop, -map_tail, -any_map, -all_map, -mapM_map, -map_map, slL, szI, ldI, zI, undL, apL, setI, rdI_get, Nat.add_one_le_iff, fillV, zeros1, zeros0, appendD, segV, lvO, goneOf, sliceD, bound, Nat.add_assoc, run_within, h1]
    simp [mvcgen_simp, -map_replicate, -map_set, -map_append, -map_reverse, -map_take, -map_drop, -map_tail, -any_map, -all_map, -mapM_map, -map_map, Try.f106, primeB, h1]
  have h1 : primeB p = noDiv p 2 := by simp [primeB, hr.1, hr.2]
  simp [go_sem, -map_replicate, -map_set, -map_append, -map_reverse, -map_take, -map_drop, -map_tail, -any_map, -all_map, -mapM_map, -map_map, slL, szI, ldI, zI, undL, apL, setI, rdI_get, Nat.add_one_le_iff, fillV, zeros1, zeros0, appendD, segV, lvO, goneOf, sliceD, bound, Nat.add_assoc, run_within, hr.1, hr.2]
  rw [WL_loop]
  refine WL_rounds (I := fun j st => ∃ k : Nat, st.fr 0 = .int .i64 p ∧ st.fr 3 = .int .i64 k ∧ 2 ≤ k ∧ k ≤ 101 ∧ j + k = 101 ∧ noDiv p 2 = noDiv p k) ?_ 99 _ ?_
  · rintro j st ⟨k, he0, he1, he2, he3, he4, he5⟩ next
    have hsq : (k : Int) * k ≤ 10201 := by
      have : (k : Int) * k ≤ 101 * 101 := Int.mul_le_mul (by omega) (by omega) (by omega) (by omega)
      omega
    have hsq0 : 0 ≤ (k : Int) * k := Int.mul_nonneg (by omega) (by omega)
    have w1 : IntKind.i64.wrap ((k : Int) * k) = (k : Int) * k := IntWalk.i64_in _ (by omega)
    have w2 : IntKind.i64.wrap ((k : Int) + 1) = (k : Int) + 1 := IntWalk.i64_in _ (by omega)
    by_cases hk : (k : Int) * k ≤ p
    · have hk' := sq_lt hr.2 (k := k) (p := p) (by omega)
      have hne : ¬ (k : Int) = 0 := by omega
      have hne' : ¬ k = 0 := by omega
      by_cases hd : p.tmod (k : Int) = 0
      · simp [go_sem, -map_replicate, -map_set, -map_append, -map_reverse, -map_take, -map_drop, -map_tail, -any_map, -all_map, -mapM_map, -map_map, slL, szI, ldI, zI, undL, apL, setI, rdI_get, Nat.add_one_le_iff, fillV, zeros1, zeros0, appendD, segV, lvO, goneOf, sliceD, bound, Nat.add_assoc, he0, he1, w1, hk, hne, hne', hd]
        simp [mvcgen_simp, -map_replicate, -map_set, -map_append, -map_reverse, -map_take, -map_drop, -map_tail, -any_map, -all_map, -mapM_map, -map_map, Try.f106, h1, he5, noDiv_false hk' (by omega) hd]
      · simp [go_sem, -map_replicate, -map_set, -map_append, -map_reverse, -map_take, -map_drop, -map_tail, -any_map, -all_map, -mapM_map, -map_map, slL, szI, ldI, zI, undL, apL, setI, rdI_get, Nat.add_one_le_iff, fillV, zeros1, zeros0, appendD, segV, lvO, goneOf, sliceD, bound, Nat.add_assoc, he0, he1, w1, w2, hk, hne, hne', hd]
        refine next (j - 1) _ (by omega) ⟨k + 1, ?_⟩
        simp [upd, he0, he1, he5, noDiv_next hd]
        omega
    · simp [go_sem, -map_replicate, -map_set, -map_append, -map_reverse, -map_take, -map_drop, -map_tail, -any_map, -all_map, -mapM_map, -map_map, slL, szI, ldI, zI, undL, apL, setI, rdI_get, Nat.add_one_le_iff, fillV, zeros1, zeros0, appendD, segV, lvO, goneOf, sliceD, bound, Nat.add_assoc, he0, he1, w1, hk]
      simp [mvcgen_simp, -map_replicate, -map_set, -map_append, -map_reverse, -map_take, -map_drop, -map_tail, -any_map, -all_map, -mapM_map, -map_map, Try.f106, h1, he5, noDiv_last hr.2 (show p < (k : Int) * k by omega)]
  · refine ⟨2, rfl, rfl, by omega, by omega, rfl, rfl⟩

theorem run_l01Prime (p : Int) : runv E0 94 [.int .i64 p] = some ⟨true, .bool (primeB p), [.undef]⟩ := by
  have cdk : codeOk Try.f94.ntmps (Try.f94.body.getD .skip) = true := by kernel_rfl
  refine run_of_WL (fn := Try.f94) rfl Try.func94 rfl ⟨by simp [Try.ntmps94], by simp [wideA, ints], cdk, by simp [Try.f94]⟩ ?_
  by_cases hr : 2 ≤ p ∧ p ≤ 10007
  case neg =>
    have h1 : (decide (2 ≤ p) && decide (p ≤ 10007)) = false := by simpa using hr
    simp [go_sem, -map_replicate, -map_set, -map_append, -map_reverse, -map_take, -map_drop, -map_tail, -any_map, -all_map, -mapM_map, -map_map, slL, szI, ldI, zI, undL, apL, setI, rdI_get, Nat.add_one_le_iff, fillV, zeros1, zeros0, appendD, segV, lvO, goneOf, sliceD, bound, Nat.add_assoc, run_l01In', h1]
    simp [mvcgen_simp, -map_replicate, -map_set, -map_append, -map_reverse, -map_take, -map_drop, -map_tail, -any_map, -all_map, -mapM_map, -map_map, Try.f94, primeB, h1]
  have h1 : primeB p = noDiv p 2 := by simp [primeB, hr.1, hr.2]
  simp [go_sem, -map_replicate, -map_set, -map_append, -map_reverse, -map_take, -map_drop, -map_tail, -any_map, -all_map, -mapM_map, -map_map, slL, szI, ldI, zI, undL, apL, setI, rdI_get, Nat.add_one_le_iff, fillV, zeros1, zeros0, appendD, segV, lvO, goneOf, sliceD, bound, Nat.add_assoc, run_l01In', hr.1, hr.2]
  rw [WL_loop]
  refine WL_rounds (I := fun j st => ∃ k : Nat, st.fr 0 = .int .i64 p ∧ st.fr 3 = .int .i64 k ∧ 2 ≤ k ∧ k ≤ 101 ∧ j + k = 101 ∧ noDiv p 2 = noDiv p k) ?_ 99 _ ?_
  · rintro j st ⟨k, he0, he1, he2, he3, he4, he5⟩ next
    have hsq : (k : Int) * k ≤ 10201 := by
      have : (k : Int) * k ≤ 101 * 101 := Int.mul_le_mul (by omega) (by omega) (by omega) (by omega)
      omega
    have hsq0 : 0 ≤ (k : Int) * k := Int.mul_nonneg (by omega) (by omega)
    have w1 : IntKind.i64.wrap ((k : Int) * k) = (k : Int) * k := IntWalk.i64_in _ (by omega)
    have w2 : IntKind.i64.wrap ((k : Int) + 1) = (k : Int) + 1 := IntWalk.i64_in _ (by omega)
    by_cases hk : (k : Int) * k ≤ p
    · have hk' := sq_lt hr.2 (k := k) (p := p) (by omega)
      have hne : ¬ (k : Int) = 0 := by omega
      have hne' : ¬ k = 0 := by omega
      by_cases hd : p.tmod (k : Int) = 0
      · simp [go_sem, -map_replicate, -map_set, -map_append, -map_reverse, -map_take, -map_drop, -map_tail, -any_map, -all_map, -mapM_map, -map_map, slL, szI, ldI, zI, undL, apL, setI, rdI_get, Nat.add_one_le_iff, fillV, zeros1, zeros0, appendD, segV, lvO, goneOf, sliceD, bound, Nat.add_assoc, he0, he1, w1, hk, hne, hne', hd]
        simp [mvcgen_simp, -map_replicate, -map_set, -map_append, -map_reverse, -map_take, -map_drop, -map_tail, -any_map, -all_map, -mapM_map, -map_map, Try.f94, h1, he5, noDiv_false hk' (by omega) hd]
      · simp [go_sem, -map_replicate, -map_set, -map_append, -map_reverse, -map_take, -map_drop, -map_tail, -any_map, -all_map, -mapM_map, -map_map, slL, szI, ldI, zI, undL, apL, setI, rdI_get, Nat.add_one_le_iff, fillV, zeros1, zeros0, appendD, segV, lvO, goneOf, sliceD, bound, Nat.add_assoc, he0, he1, w1, w2, hk, hne, hne', hd]
        refine next (j - 1) _ (by omega) ⟨k + 1, ?_⟩
        simp [upd, he0, he1, he5, noDiv_next hd]
        omega
    · simp [go_sem, -map_replicate, -map_set, -map_append, -map_reverse, -map_take, -map_drop, -map_tail, -any_map, -all_map, -mapM_map, -map_map, slL, szI, ldI, zI, undL, apL, setI, rdI_get, Nat.add_one_le_iff, fillV, zeros1, zeros0, appendD, segV, lvO, goneOf, sliceD, bound, Nat.add_assoc, he0, he1, w1, hk]
      simp [mvcgen_simp, -map_replicate, -map_set, -map_append, -map_reverse, -map_take, -map_drop, -map_tail, -any_map, -all_map, -mapM_map, -map_map, Try.f94, h1, he5, noDiv_last hr.2 (show p < (k : Int) * k by omega)]
  · refine ⟨2, rfl, rfl, by omega, by omega, rfl, rfl⟩

/-! ### Fields -/
def hasB (p x : Int) : Bool := decide (0 ≤ x) && decide (x < p)
def unitB (p x : Int) : Bool := decide (1 ≤ x) && decide (x < p)
theorem prime_range {p : Int} (h : primeB p = true) : 2 ≤ p ∧ p ≤ 10007 := by
  simp [primeB] at h; omega
theorem hasB_range {p x : Int} (h : hasB p x = true) : 0 ≤ x ∧ x < p := by simp [hasB] at h; exact h
theorem unitB_range {p x : Int} (h : unitB p x = true) : 1 ≤ x ∧ x < p := by simp [unitB] at h; exact h

theorem run_has (p x : Int) : runv E0 69 [.int .i64 p, .int .i64 x] = some ⟨true, .bool (hasB p x), [.undef, .undef]⟩ := by
  have cdk : codeOk Try.f69.ntmps (Try.f69.body.getD .skip) = true := by kernel_rfl
  refine run_of_WL (fn := Try.f69) rfl Try.func69 rfl ⟨by simp [Try.ntmps69], by simp [wideA, ints], cdk, by simp [Try.f69]⟩ ?_
  by_cases h : 0 ≤ x
  · simp [go_sem, -map_replicate, -map_set, -map_append, -map_reverse, -map_take, -map_drop, -map_tail, -any_map, -all_map, -mapM_map, -map_map, slL, szI, ldI, zI, undL, apL, setI, rdI_get, Nat.add_one_le_iff, fillV, zeros1, zeros0, appendD, segV, lvO, goneOf, sliceD, bound, Nat.add_assoc, h]
    simp [mvcgen_simp, -map_replicate, -map_set, -map_append, -map_reverse, -map_take, -map_drop, -map_tail, -any_map, -all_map, -mapM_map, -map_map, Try.f69, hasB, h]
  · simp [go_sem, -map_replicate, -map_set, -map_append, -map_reverse, -map_take, -map_drop, -map_tail, -any_map, -all_map, -mapM_map, -map_map, slL, szI, ldI, zI, undL, apL, setI, rdI_get, Nat.add_one_le_iff, fillV, zeros1, zeros0, appendD, segV, lvO, goneOf, sliceD, bound, Nat.add_assoc, h]
    simp [mvcgen_simp, -map_replicate, -map_set, -map_append, -map_reverse, -map_take, -map_drop, -map_tail, -any_map, -all_map, -mapM_map, -map_map, Try.f69, hasB, h]
theorem run_isUnit (p x : Int) (hp : 2 ≤ p ∧ p ≤ 10007) : runv E0 145 [.int .i64 p, .int .i64 x] = some ⟨true, .bool (unitB p x), [.undef, .undef]⟩ := by
  have cdk : codeOk Try.f145.ntmps (Try.f145.body.getD .skip) = true := by kernel_rfl
  refine run_of_WL (fn := Try.f145) rfl Try.func145 rfl ⟨by simp [Try.ntmps145], by simp [wideA, ints], cdk, by simp [Try.f145]⟩ ?_
  have w : IntKind.i64.wrap (p - 1) = p - 1 := IntWalk.i64_in _ (by omega)
  have e : decide (x ≤ p - 1) = decide (x < p) := by rw [decide_eq_decide]; omega
  simp [go_sem, -map_replicate, -map_set, -map_append, -map_reverse, -map_take, -map_drop, -map_tail, -any_map, -all_map, -mapM_map, -map_map, slL, szI, ldI, zI, undL, apL, setI, rdI_get, Nat.add_one_le_iff, fillV, zeros1, zeros0, appendD, segV, lvO, goneOf, sliceD, bound, Nat.add_assoc, w, run_within, e]
  simp [mvcgen_simp, -map_replicate, -map_set, -map_append, -map_reverse, -map_take, -map_drop, -map_tail, -any_map, -all_map, -mapM_map, -map_map, Try.f145, unitB]
/-- What modulo means for numbers that are not too large. -/
theorem mod_eq {p x : Int} (hp : 0 < p) : ((x.tmod p) + p).tmod p = x % p := by
  have h1 : (x.tmod p + p) % p = x % p := by
    rw [Int.add_emod_right]
    rcases Int.le_total 0 x with h | h
    · rw [Int.tmod_eq_emod_of_nonneg h, Int.emod_emod_of_dvd _ (Int.dvd_refl p)]
    · have := Int.tmod_def x p
      rw [this, Int.sub_mul_emod_self_left]
  have h2 : 0 ≤ x.tmod p + p := by
    have := Int.lt_tmod_of_pos x hp
    omega
  rw [Int.tmod_eq_emod_of_nonneg h2, h1]
theorem run_mod (p x : Int) (hp : 2 ≤ p ∧ p ≤ 10007) : runv E0 73 [.int .i64 p, .int .i64 x] = some ⟨true, .int .i64 (x % p), [.undef, .undef]⟩ := by
  have cdk : codeOk Try.f73.ntmps (Try.f73.body.getD .skip) = true := by kernel_rfl
  refine run_of_WL (fn := Try.f73) rfl Try.func73 rfl ⟨by simp [Try.ntmps73], by simp [wideA, ints], cdk, by simp [Try.f73]⟩ ?_
  have h1 := Int.tmod_lt_of_pos x (show 0 < p by omega)
  have h2 := Int.lt_tmod_of_pos x (show 0 < p by omega)
  have w : IntKind.i64.wrap (x.tmod p + p) = x.tmod p + p := IntWalk.i64_in _ (by omega)
  have hne : ¬ p = 0 := by omega
  simp [go_sem, -map_replicate, -map_set, -map_append, -map_reverse, -map_take, -map_drop, -map_tail, -any_map, -all_map, -mapM_map, -map_map, slL, szI, ldI, zI, undL, apL, setI, rdI_get, Nat.add_one_le_iff, fillV, zeros1, zeros0, appendD, segV, lvO, goneOf, sliceD, bound, Nat.add_assoc, hne, w, mod_eq (show 0 < p by omega)]
  simp [mvcgen_simp, -map_replicate, -map_set, -map_append, -map_reverse, -map_take, -map_drop, -map_tail, -any_map, -all_map, -mapM_map, -map_map, Try.f73]
theorem run_mul (p x y : Int) (hp : 2 ≤ p ∧ p ≤ 10007) (hw : IntKind.i64.wrap (x * y) = x * y) : runv E0 92 [.int .i64 p, .int .i64 x, .int .i64 y] = some ⟨true, .int .i64 (x * y % p), [.undef, .undef, .undef]⟩ := by
  have cdk : codeOk Try.f92.ntmps (Try.f92.body.getD .skip) = true := by kernel_rfl
  refine run_of_WL (fn := Try.f92) rfl Try.func92 rfl ⟨by simp [Try.ntmps92], by simp [wideA, ints], cdk, by simp [Try.f92]⟩ ?_
  simp [go_sem, -map_replicate, -map_set, -map_append, -map_reverse, -map_take, -map_drop, -map_tail, -any_map, -all_map, -mapM_map, -map_map, slL, szI, ldI, zI, undL, apL, setI, rdI_get, Nat.add_one_le_iff, fillV, zeros1, zeros0, appendD, segV, lvO, goneOf, sliceD, bound, Nat.add_assoc, hw, run_mod p _ hp]
  simp [mvcgen_simp, -map_replicate, -map_set, -map_append, -map_reverse, -map_take, -map_drop, -map_tail, -any_map, -all_map, -mapM_map, -map_map, Try.f92]
theorem run_l01Mod (p x : Int) (hp : 2 ≤ p ∧ p ≤ 10007) : runv E0 89 [.int .i64 p, .int .i64 x] = some ⟨true, .int .i64 (x % p), [.undef, .undef]⟩ := by
  have cdk : codeOk Try.f89.ntmps (Try.f89.body.getD .skip) = true := by kernel_rfl
  refine run_of_WL (fn := Try.f89) rfl Try.func89 rfl ⟨by simp [Try.ntmps89], by simp [wideA, ints], cdk, by simp [Try.f89]⟩ ?_
  have h1 := Int.tmod_lt_of_pos x (show 0 < p by omega)
  have h2 := Int.lt_tmod_of_pos x (show 0 < p by omega)
  have w : IntKind.i64.wrap (x.tmod p + p) = x.tmod p + p := IntWalk.i64_in _ (by omega)
  have hne : ¬ p = 0 := by omega
  simp [go_sem, -map_replicate, -map_set, -map_append, -map_reverse, -map_take, -map_drop, -map_tail, -any_map, -all_map, -mapM_map, -map_map, slL, szI, ldI, zI, undL, apL, setI, rdI_get, Nat.add_one_le_iff, fillV, zeros1, zeros0, appendD, segV, lvO, goneOf, sliceD, bound, Nat.add_assoc, hne, w, mod_eq (show 0 < p by omega)]
  simp [mvcgen_simp, -map_replicate, -map_set, -map_append, -map_reverse, -map_take, -map_drop, -map_tail, -any_map, -all_map, -mapM_map, -map_map, Try.f89]

theorem mul_small {p x y : Int} (hp : 2 ≤ p ∧ p ≤ 10007) (hx : 0 ≤ x ∧ x < p) (hy : 0 ≤ y ∧ y < p) : 0 ≤ x * y ∧ x * y ≤ 100140049 := by
  refine ⟨Int.mul_nonneg hx.1 hy.1, ?_⟩
  calc x * y ≤ 10007 * 10007 := Int.mul_le_mul (by omega) (by omega) hy.1 (by omega)
    _ = 100140049 := by decide
theorem mod_small {p : Int} (hp : 2 ≤ p ∧ p ≤ 10007) (x : Int) : 0 ≤ x % p ∧ x % p < p := ⟨Int.emod_nonneg _ (by omega), Int.emod_lt_of_pos _ (by omega)⟩

/-! ### Lists of numbers of a field -/
theorem run_l02Numbers (p : Int) (l : List Int) (hp : 2 ≤ p ∧ p ≤ 10007) (hl : l.length ≤ 9223372036854775807) :
    runv E0 135 [.int .i64 p, .list l.length (l.map (V.int .i64))] = some ⟨true, .bool (l.all (hasB p)), [.undef, .undef]⟩ := by
  have cdk : codeOk Try.f135.ntmps (Try.f135.body.getD .skip) = true := by kernel_rfl
  refine run_of_WL (fn := Try.f135) rfl Try.func135 rfl ⟨by simp [Try.ntmps135], by simp [wideA, ints], cdk, by simp [Try.f135]⟩ ?_
  have w : IntKind.i64.wrap (p - 1) = p - 1 := IntWalk.i64_in _ (by omega)
  have ex : ∀ x, (decide (0 ≤ x) && decide (x ≤ p - 1)) = hasB p x := by
    intro x; unfold hasB; congr 1; rw [decide_eq_decide]; omega
  simp [go_sem, -map_replicate, -map_set, -map_append, -map_reverse, -map_take, -map_drop, -map_tail, -any_map, -all_map, -mapM_map, -map_map, slL, szI, ldI, zI, undL, apL, setI, rdI_get, Nat.add_one_le_iff, fillV, zeros1, zeros0, appendD, segV, lvO, goneOf, sliceD, bound, Nat.add_assoc]
  rw [WL_loop]
  refine WL_count (I := fun i st => st.fr 0 = .int .i64 p ∧ st.fr 1 = .list l.length (l.map (V.int .i64)) ∧ st.fr 5 = .int .i64 i ∧ (∀ j, j < i → hasB p (rdI l j) = true)) l.length ?_ ?_ 0 _ (by omega) ?_
  · rintro i st hi ⟨he0, he1, he2, he3⟩ next
    have hin := run_l01In' (rdI l i) 0 (p - 1)
    rw [ex] at hin
    have w1 : IntKind.i64.wrap ((i : Int) + 1) = (i : Int) + 1 := IntWalk.i64_in _ (by omega)
    cases hx : hasB p (rdI l i) with
    | true =>
      rw [hx] at hin
      simp [go_sem, -map_replicate, -map_set, -map_append, -map_reverse, -map_take, -map_drop, -map_tail, -any_map, -all_map, -mapM_map, -map_map, slL, szI, ldI, zI, undL, apL, setI, rdI_get, Nat.add_one_le_iff, fillV, zeros1, zeros0, appendD, segV, lvO, goneOf, sliceD, bound, Nat.add_assoc, he0, he1, he2, hi, w, w1, hin]
      refine next _ ?_
      simp [upd, he0, he1, he2]
      intro j hj
      by_cases h : j = i
      · subst h; exact hx
      · exact he3 j (by omega)
    | false =>
      rw [hx] at hin
      simp [go_sem, -map_replicate, -map_set, -map_append, -map_reverse, -map_take, -map_drop, -map_tail, -any_map, -all_map, -mapM_map, -map_map, slL, szI, ldI, zI, undL, apL, setI, rdI_get, Nat.add_one_le_iff, fillV, zeros1, zeros0, appendD, segV, lvO, goneOf, sliceD, bound, Nat.add_assoc, he0, he1, he2, hi, w, w1, hin]
      simp [mvcgen_simp, -map_replicate, -map_set, -map_append, -map_reverse, -map_take, -map_drop, -map_tail, -any_map, -all_map, -mapM_map, -map_map, Try.f135]
      exact ⟨rdI l i, rdI_get hi ▸ List.getElem_mem hi, hx⟩
  · rintro st ⟨he0, he1, he2, he3⟩
    simp [go_sem, -map_replicate, -map_set, -map_append, -map_reverse, -map_take, -map_drop, -map_tail, -any_map, -all_map, -mapM_map, -map_map, slL, szI, ldI, zI, undL, apL, setI, rdI_get, Nat.add_one_le_iff, fillV, zeros1, zeros0, appendD, segV, lvO, goneOf, sliceD, bound, Nat.add_assoc, he0, he1, he2]
    simp [mvcgen_simp, -map_replicate, -map_set, -map_append, -map_reverse, -map_take, -map_drop, -map_tail, -any_map, -all_map, -mapM_map, -map_map, Try.f135]
    intro x hx
    obtain ⟨j, hj, rfl⟩ := List.getElem_of_mem hx
    rw [rdI_get hj]
    exact he3 j hj
  · refine ⟨rfl, rfl, rfl, by omega⟩

end Go.Proofs.Ytacfkfdnncgjcaa.Ev

set_option linter.unusedSimpArgs false
set_option linter.unusedVariables false
namespace Go.Proofs.Ytacfkfdnncgjcaa.Ev
open Go Go.Proofs
open List (map_replicate map_set map_append map_reverse map_take map_drop map_tail any_map all_map mapM_map map_map)
set_option maxRecDepth 4000
set_option maxHeartbeats 4000000

/-! ### Types -/
theorem szL : szT Try.prog 27 = some 1 := by kernel_rfl
theorem ldL : ldT Try.prog 27 = some (false, 1) := by kernel_rfl
theorem ldM : ldT Try.prog 32 = some (true, 2) := by kernel_rfl
theorem szM : szT Try.prog 32 = some 2 := by kernel_rfl
theorem fM0 : fldT Try.prog 32 0 = some (0, false, 1) := by kernel_rfl
theorem fM1 : fldT Try.prog 32 1 = some (1, false, 1) := by kernel_rfl
theorem zM : zeroT Try.prog 32 = some [.int .i64 0, .nils] := by kernel_rfl
theorem ctM : cellTys Try.prog 32 = [none, some 1] := by kernel_rfl
theorem plM0 : plT Try.prog 32 0 = some (0, 1) := by kernel_rfl
theorem plM1 : plT Try.prog 32 1 = some (1, 1) := by kernel_rfl
theorem agM : aggT Try.prog 32 = some true := by kernel_rfl
theorem paM : plAll Try.prog 32 = true := by kernel_rfl
theorem ldJ : ldT Try.prog 30 = some (true, 3) := by kernel_rfl
theorem szJ : szT Try.prog 30 = some 3 := by kernel_rfl
theorem fJ0 : fldT Try.prog 30 0 = some (0, false, 1) := by kernel_rfl
theorem fJ1 : fldT Try.prog 30 1 = some (1, false, 1) := by kernel_rfl
theorem fJ2 : fldT Try.prog 30 2 = some (2, false, 1) := by kernel_rfl
theorem zJ : zeroT Try.prog 30 = some [.int .i64 0, .nils, .nils] := by kernel_rfl
theorem ctJ : cellTys Try.prog 30 = [none, some 1, some 1] := by kernel_rfl
theorem plJ0 : plT Try.prog 30 0 = some (0, 1) := by kernel_rfl
theorem plJ1 : plT Try.prog 30 1 = some (1, 1) := by kernel_rfl
theorem plJ2 : plT Try.prog 30 2 = some (2, 1) := by kernel_rfl
theorem agJ : aggT Try.prog 30 = some true := by kernel_rfl
theorem paJ : plAll Try.prog 30 = true := by kernel_rfl

theorem setCs0 (c v : V) (cs : List V) : setCs (c :: cs) 0 [v] = v :: cs := rfl
theorem setCs1 (c d v : V) (cs : List V) : setCs (c :: d :: cs) 1 [v] = c :: v :: cs := rfl
theorem setCs2 (c d e v : V) (cs : List V) : setCs (c :: d :: e :: cs) 2 [v] = c :: d :: v :: cs := rfl
theorem setCsA2 (c d v w : V) : setCs [c, d] 0 [v, w] = [v, w] := rfl
theorem setCsA3 (c d e v w x : V) : setCs [c, d, e] 0 [v, w, x] = [v, w, x] := rfl

/-! ### All numbers of a list are of a field -/
theorem fv_int (p : Int) : FV [.int .i64 p] [] := by
  constructor <;> intro H d <;> cases d <;> rfl
theorem areAll_has (p : Int) (l : List Int) (hl : l.length ≤ 9223372036854775807) :
    runv E0 132 [(V.list (List.length (l)) (List.map (V.int .i64) (l))), .func (.func 69) [.int .i64 p] []] = some ⟨true, .bool (l.all (hasB p)), [.undef, .undef]⟩ :=
  run_areAll l 69 [.int .i64 p] [] (hasB p) hl (fv_int p) (fun H b x => by
    simp [modesOf, callD, prepL, prepA, purN, idsN, depth, run_has, nodupB, flatO, noTup, backW, widthOk, wideA, adopt, adoptA, adoptC, treeN])
theorem areAll_isUnit (p : Int) (hp : 2 ≤ p ∧ p ≤ 10007) (l : List Int) (hl : l.length ≤ 9223372036854775807) :
    runv E0 132 [(V.list (List.length (l)) (List.map (V.int .i64) (l))), .func (.func 145) [.int .i64 p] []] = some ⟨true, .bool (l.all (unitB p)), [.undef, .undef]⟩ :=
  run_areAll l 145 [.int .i64 p] [] (unitB p) hl (fv_int p) (fun H b x => by
    simp [modesOf, callD, prepL, prepA, purN, idsN, depth, run_isUnit p x hp, nodupB, flatO, noTup, backW, widthOk, wideA, adopt, adoptA, adoptC, treeN])

theorem run_length (l : List Int) : runv E0 64 [(V.list (List.length (l)) (List.map (V.int .i64) (l)))] = some ⟨true, .int .i64 l.length, [.undef]⟩ := by
  have cdk : codeOk Try.f64.ntmps (Try.f64.body.getD .skip) = true := by kernel_rfl
  refine run_of_WL (fn := Try.f64) rfl Try.func64 rfl ⟨by simp [Try.ntmps64], by simp [wideA, ints], cdk, by simp [Try.f64]⟩ ?_
  simp [go_sem, -map_replicate, -map_set, -map_append, -map_reverse, -map_take, -map_drop, -map_tail, -any_map, -all_map, -mapM_map, -map_map, slL, szI, ldI, zI, undL, apL, setI, rdI_get, Nat.add_one_le_iff, fillV, zeros1, zeros0, appendD, segV, lvO, goneOf, sliceD, bound, Nat.add_assoc]
  simp [mvcgen_simp, -map_replicate, -map_set, -map_append, -map_reverse, -map_take, -map_drop, -map_tail, -any_map, -all_map, -mapM_map, -map_map, Try.f64]

def upTo (l : List Int) (m : Nat) : Bool := decide (1 ≤ l.length) && decide (l.length ≤ m)
theorem within_upTo (l : List Int) (m : Nat) (M : Int) (hM : M = m) : runv E0 46 [.int .i64 l.length, .int .i64 1, .int .i64 M] = some ⟨true, .bool (upTo l m), [.undef, .undef, .undef]⟩ := by
  subst hM
  rw [run_within]
  have : decide ((1 : Int) ≤ (l.length : Int)) = decide (1 ≤ l.length) := by rw [decide_eq_decide]; omega
  rw [this]
  simp [upTo]

/-! ### Moments -/
def momB (p : Int) (l : List Int) : Bool := primeB p && upTo l 24 && l.all (hasB p)
theorem momB_prime {p : Int} {l : List Int} (h : momB p l = true) : 2 ≤ p ∧ p ≤ 10007 := by
  simp [momB] at h; exact prime_range h.1.1
theorem momB_len {p : Int} {l : List Int} (h : momB p l = true) : 1 ≤ l.length ∧ l.length ≤ 24 := by
  simp [momB, upTo] at h; exact h.1.2
theorem momB_rd {p : Int} {l : List Int} (h : momB p l = true) {k : Nat} (hk : k < l.length) : 0 ≤ rdI l k ∧ rdI l k < p := by
  simp only [momB, Bool.and_eq_true, List.all_eq_true] at h
  exact hasB_range (h.2 _ (rdI_get hk ▸ List.getElem_mem hk))
theorem run_Mfield (p : Int) (l : List Int) : runv E0 66 [(V.agg [V.int .i64 (p), (V.list (List.length (l)) (List.map (V.int .i64) (l)))])] = some ⟨true, .int .i64 p, [.agg [.undef, .undef]]⟩ := by
  have cdk : codeOk Try.f66.ntmps (Try.f66.body.getD .skip) = true := by kernel_rfl
  refine run_of_WL (fn := Try.f66) rfl Try.func66 rfl ⟨by simp [Try.ntmps66], by simp [wideA, ints], cdk, by simp [Try.f66]⟩ ?_
  simp [go_sem, -map_replicate, -map_set, -map_append, -map_reverse, -map_take, -map_drop, -map_tail, -any_map, -all_map, -mapM_map, -map_map, slL, szI, ldI, zI, undL, apL, setI, rdI_get, Nat.add_one_le_iff, fillV, zeros1, zeros0, appendD, segV, lvO, goneOf, sliceD, bound, Nat.add_assoc, szL, ldL, setCs0, setCs1, setCs2, setCsA2, setCsA3, ldM, fM0, fM1, szM, zM, plM0, plM1, agM, paM, ldJ, fJ0, fJ1, fJ2, szJ, zJ, plJ0, plJ1, plJ2, agJ, paJ]
  simp [mvcgen_simp, -map_replicate, -map_set, -map_append, -map_reverse, -map_take, -map_drop, -map_tail, -any_map, -all_map, -mapM_map, -map_map, Try.f66, szL, ldL, setCs0, setCs1, setCs2, setCsA2, setCsA3, ldM, fM0, fM1, szM, zM, plM0, plM1, agM, paM, ldJ, fJ0, fJ1, fJ2, szJ, zJ, plJ0, plJ1, plJ2, agJ, paJ]

theorem run_AreMoments (p : Int) (l : List Int) (hl : l.length ≤ 9223372036854775807) : runv E0 122 [(V.agg [V.int .i64 (p), (V.list (List.length (l)) (List.map (V.int .i64) (l)))])] = some ⟨true, .bool (momB p l), [.agg [.undef, .undef]]⟩ := by
  have cdk : codeOk Try.f122.ntmps (Try.f122.body.getD .skip) = true := by kernel_rfl
  refine run_of_WL (fn := Try.f122) rfl Try.func122 rfl ⟨by simp [Try.ntmps122], by simp [wideA, ints], cdk, by simp [Try.f122]⟩ ?_
  have h1 := run_IsPrime p
  have h2 := within_upTo l 24 24 rfl
  have h3 := areAll_has p l hl
  cases e1 : primeB p with
  | false =>
    rw [e1] at h1
    simp [go_sem, -map_replicate, -map_set, -map_append, -map_reverse, -map_take, -map_drop, -map_tail, -any_map, -all_map, -mapM_map, -map_map, slL, szI, ldI, zI, undL, apL, setI, rdI_get, Nat.add_one_le_iff, fillV, zeros1, zeros0, appendD, segV, lvO, goneOf, sliceD, bound, Nat.add_assoc, szL, ldL, setCs0, setCs1, setCs2, setCsA2, setCsA3, ldM, fM0, fM1, szM, zM, plM0, plM1, agM, paM, ldJ, fJ0, fJ1, fJ2, szJ, zJ, plJ0, plJ1, plJ2, agJ, paJ, h1]
    refine ⟨by kernel_rfl, by kernel_rfl, ?_⟩
    simp [mvcgen_simp, -map_replicate, -map_set, -map_append, -map_reverse, -map_take, -map_drop, -map_tail, -any_map, -all_map, -mapM_map, -map_map, Try.f122, momB, e1]
  | true =>
    rw [e1] at h1
    cases e2 : upTo l 24 with
    | false =>
      rw [e2] at h2
      simp [go_sem, -map_replicate, -map_set, -map_append, -map_reverse, -map_take, -map_drop, -map_tail, -any_map, -all_map, -mapM_map, -map_map, slL, szI, ldI, zI, undL, apL, setI, rdI_get, Nat.add_one_le_iff, fillV, zeros1, zeros0, appendD, segV, lvO, goneOf, sliceD, bound, Nat.add_assoc, szL, ldL, setCs0, setCs1, setCs2, setCsA2, setCsA3, ldM, fM0, fM1, szM, zM, plM0, plM1, agM, paM, ldJ, fJ0, fJ1, fJ2, szJ, zJ, plJ0, plJ1, plJ2, agJ, paJ, h1, run_length, h2]
      refine ⟨by kernel_rfl, by kernel_rfl, ?_⟩
      simp [mvcgen_simp, -map_replicate, -map_set, -map_append, -map_reverse, -map_take, -map_drop, -map_tail, -any_map, -all_map, -mapM_map, -map_map, Try.f122, momB, e1, e2]
    | true =>
      rw [e2] at h2
      simp [go_sem, -map_replicate, -map_set, -map_append, -map_reverse, -map_take, -map_drop, -map_tail, -any_map, -all_map, -mapM_map, -map_map, slL, szI, ldI, zI, undL, apL, setI, rdI_get, Nat.add_one_le_iff, fillV, zeros1, zeros0, appendD, segV, lvO, goneOf, sliceD, bound, Nat.add_assoc, szL, ldL, setCs0, setCs1, setCs2, setCsA2, setCsA3, ldM, fM0, fM1, szM, zM, plM0, plM1, agM, paM, ldJ, fJ0, fJ1, fJ2, szJ, zJ, plJ0, plJ1, plJ2, agJ, paJ, h1, run_length, h2, run_Mfield, h3]
      refine ⟨by kernel_rfl, by kernel_rfl, ?_⟩
      simp [mvcgen_simp, -map_replicate, -map_set, -map_append, -map_reverse, -map_take, -map_drop, -map_tail, -any_map, -all_map, -mapM_map, -map_map, Try.f122, momB, e1, e2]

theorem run_l02Are (p : Int) (l : List Int) (hl : l.length ≤ 9223372036854775807) : runv E0 85 [(V.agg [V.int .i64 (p), (V.list (List.length (l)) (List.map (V.int .i64) (l)))])] = some ⟨true, .bool (momB p l), [.agg [.undef, .undef]]⟩ := by
  have cdk : codeOk Try.f85.ntmps (Try.f85.body.getD .skip) = true := by kernel_rfl
  refine run_of_WL (fn := Try.f85) rfl Try.func85 rfl ⟨by simp [Try.ntmps85], by simp [wideA, ints], cdk, by simp [Try.f85]⟩ ?_
  have h1 := run_l01Prime p
  cases e1 : primeB p with
  | false =>
    rw [e1] at h1
    simp [go_sem, -map_replicate, -map_set, -map_append, -map_reverse, -map_take, -map_drop, -map_tail, -any_map, -all_map, -mapM_map, -map_map, slL, szI, ldI, zI, undL, apL, setI, rdI_get, Nat.add_one_le_iff, fillV, zeros1, zeros0, appendD, segV, lvO, goneOf, sliceD, bound, Nat.add_assoc, szL, ldL, setCs0, setCs1, setCs2, setCsA2, setCsA3, ldM, fM0, fM1, szM, zM, plM0, plM1, agM, paM, ldJ, fJ0, fJ1, fJ2, szJ, zJ, plJ0, plJ1, plJ2, agJ, paJ, h1]
    simp [mvcgen_simp, -map_replicate, -map_set, -map_append, -map_reverse, -map_take, -map_drop, -map_tail, -any_map, -all_map, -mapM_map, -map_map, Try.f85, momB, e1]
  | true =>
    rw [e1] at h1
    have h3 := run_l02Numbers p l (prime_range e1) hl
    by_cases e2 : (1 : Int) ≤ l.length
    · have e2' : 1 ≤ l.length := by omega
      by_cases e3 : (l.length : Int) ≤ 24
      · have e3' : l.length ≤ 24 := by omega
        simp [go_sem, -map_replicate, -map_set, -map_append, -map_reverse, -map_take, -map_drop, -map_tail, -any_map, -all_map, -mapM_map, -map_map, slL, szI, ldI, zI, undL, apL, setI, rdI_get, Nat.add_one_le_iff, fillV, zeros1, zeros0, appendD, segV, lvO, goneOf, sliceD, bound, Nat.add_assoc, szL, ldL, setCs0, setCs1, setCs2, setCsA2, setCsA3, ldM, fM0, fM1, szM, zM, plM0, plM1, agM, paM, ldJ, fJ0, fJ1, fJ2, szJ, zJ, plJ0, plJ1, plJ2, agJ, paJ, h1, e2, e3, h3]
        simp [mvcgen_simp, -map_replicate, -map_set, -map_append, -map_reverse, -map_take, -map_drop, -map_tail, -any_map, -all_map, -mapM_map, -map_map, Try.f85, momB, upTo, e1, e2', e3']
      · have e3' : ¬ l.length ≤ 24 := by omega
        simp [go_sem, -map_replicate, -map_set, -map_append, -map_reverse, -map_take, -map_drop, -map_tail, -any_map, -all_map, -mapM_map, -map_map, slL, szI, ldI, zI, undL, apL, setI, rdI_get, Nat.add_one_le_iff, fillV, zeros1, zeros0, appendD, segV, lvO, goneOf, sliceD, bound, Nat.add_assoc, szL, ldL, setCs0, setCs1, setCs2, setCsA2, setCsA3, ldM, fM0, fM1, szM, zM, plM0, plM1, agM, paM, ldJ, fJ0, fJ1, fJ2, szJ, zJ, plJ0, plJ1, plJ2, agJ, paJ, h1, e2, e3, h3]
        simp [mvcgen_simp, -map_replicate, -map_set, -map_append, -map_reverse, -map_take, -map_drop, -map_tail, -any_map, -all_map, -mapM_map, -map_map, Try.f85, momB, upTo, e1, e2', e3']
    · have e2' : ¬ 1 ≤ l.length := by omega
      simp [go_sem, -map_replicate, -map_set, -map_append, -map_reverse, -map_take, -map_drop, -map_tail, -any_map, -all_map, -mapM_map, -map_map, slL, szI, ldI, zI, undL, apL, setI, rdI_get, Nat.add_one_le_iff, fillV, zeros1, zeros0, appendD, segV, lvO, goneOf, sliceD, bound, Nat.add_assoc, szL, ldL, setCs0, setCs1, setCs2, setCsA2, setCsA3, ldM, fM0, fM1, szM, zM, plM0, plM1, agM, paM, ldJ, fJ0, fJ1, fJ2, szJ, zJ, plJ0, plJ1, plJ2, agJ, paJ, h1, e2, h3]
      simp [mvcgen_simp, -map_replicate, -map_set, -map_append, -map_reverse, -map_take, -map_drop, -map_tail, -any_map, -all_map, -mapM_map, -map_map, Try.f85, momB, upTo, e1, e2']

/-! ### Data -/
def jacB (p : Int) (a b : List Int) : Bool := primeB p && upTo a 12 && decide (b.length = a.length) && a.all (hasB p) && b.all (unitB p)
theorem jacB_prime {p : Int} {a b : List Int} (h : jacB p a b = true) : 2 ≤ p ∧ p ≤ 10007 := by
  simp [jacB] at h; exact prime_range h.1.1.1.1
theorem jacB_len {p : Int} {a b : List Int} (h : jacB p a b = true) : 1 ≤ a.length ∧ a.length ≤ 12 ∧ b.length = a.length := by
  simp [jacB, upTo] at h; omega
theorem jacB_a {p : Int} {a b : List Int} (h : jacB p a b = true) {k : Nat} (hk : k < a.length) : 0 ≤ rdI a k ∧ rdI a k < p := by
  simp only [jacB, Bool.and_eq_true, List.all_eq_true] at h
  exact hasB_range (h.1.2 _ (rdI_get hk ▸ List.getElem_mem hk))
theorem jacB_b {p : Int} {a b : List Int} (h : jacB p a b = true) {k : Nat} (hk : k < a.length) : 1 ≤ rdI b k ∧ rdI b k < p := by
  have hl := (jacB_len h).2.2
  have hk' : k < b.length := by omega
  simp only [jacB, Bool.and_eq_true, List.all_eq_true] at h
  exact unitB_range (h.2 _ (rdI_get hk' ▸ List.getElem_mem hk'))
theorem run_Jfield (p : Int) (a b : List Int) : runv E0 68 [(V.agg [V.int .i64 (p), (V.list (List.length (a)) (List.map (V.int .i64) (a))), (V.list (List.length (b)) (List.map (V.int .i64) (b)))])] = some ⟨true, .int .i64 p, [.agg [.undef, .undef, .undef]]⟩ := by
  have cdk : codeOk Try.f68.ntmps (Try.f68.body.getD .skip) = true := by kernel_rfl
  refine run_of_WL (fn := Try.f68) rfl Try.func68 rfl ⟨by simp [Try.ntmps68], by simp [wideA, ints], cdk, by simp [Try.f68]⟩ ?_
  simp [go_sem, -map_replicate, -map_set, -map_append, -map_reverse, -map_take, -map_drop, -map_tail, -any_map, -all_map, -mapM_map, -map_map, slL, szI, ldI, zI, undL, apL, setI, rdI_get, Nat.add_one_le_iff, fillV, zeros1, zeros0, appendD, segV, lvO, goneOf, sliceD, bound, Nat.add_assoc, szL, ldL, setCs0, setCs1, setCs2, setCsA2, setCsA3, ldM, fM0, fM1, szM, zM, plM0, plM1, agM, paM, ldJ, fJ0, fJ1, fJ2, szJ, zJ, plJ0, plJ1, plJ2, agJ, paJ]
  simp [mvcgen_simp, -map_replicate, -map_set, -map_append, -map_reverse, -map_take, -map_drop, -map_tail, -any_map, -all_map, -mapM_map, -map_map, Try.f68, szL, ldL, setCs0, setCs1, setCs2, setCsA2, setCsA3, ldM, fM0, fM1, szM, zM, plM0, plM1, agM, paM, ldJ, fJ0, fJ1, fJ2, szJ, zJ, plJ0, plJ1, plJ2, agJ, paJ]
theorem run_Jsize (p : Int) (a b : List Int) : runv E0 47 [(V.agg [V.int .i64 (p), (V.list (List.length (a)) (List.map (V.int .i64) (a))), (V.list (List.length (b)) (List.map (V.int .i64) (b)))])] = some ⟨true, .int .i64 a.length, [.agg [.undef, .undef, .undef]]⟩ := by
  have cdk : codeOk Try.f47.ntmps (Try.f47.body.getD .skip) = true := by kernel_rfl
  refine run_of_WL (fn := Try.f47) rfl Try.func47 rfl ⟨by simp [Try.ntmps47], by simp [wideA, ints], cdk, by simp [Try.f47]⟩ ?_
  simp [go_sem, -map_replicate, -map_set, -map_append, -map_reverse, -map_take, -map_drop, -map_tail, -any_map, -all_map, -mapM_map, -map_map, slL, szI, ldI, zI, undL, apL, setI, rdI_get, Nat.add_one_le_iff, fillV, zeros1, zeros0, appendD, segV, lvO, goneOf, sliceD, bound, Nat.add_assoc, szL, ldL, setCs0, setCs1, setCs2, setCsA2, setCsA3, ldM, fM0, fM1, szM, zM, plM0, plM1, agM, paM, ldJ, fJ0, fJ1, fJ2, szJ, zJ, plJ0, plJ1, plJ2, agJ, paJ, run_length]
  simp [mvcgen_simp, -map_replicate, -map_set, -map_append, -map_reverse, -map_take, -map_drop, -map_tail, -any_map, -all_map, -mapM_map, -map_map, Try.f47, szL, ldL, setCs0, setCs1, setCs2, setCsA2, setCsA3, ldM, fM0, fM1, szM, zM, plM0, plM1, agM, paM, ldJ, fJ0, fJ1, fJ2, szJ, zJ, plJ0, plJ1, plJ2, agJ, paJ]

theorem run_IsJacobi (p : Int) (a b : List Int) (ha : a.length ≤ 9223372036854775807) (hb : b.length ≤ 9223372036854775807) : runv E0 119 [(V.agg [V.int .i64 (p), (V.list (List.length (a)) (List.map (V.int .i64) (a))), (V.list (List.length (b)) (List.map (V.int .i64) (b)))])] = some ⟨true, .bool (jacB p a b), [.agg [.undef, .undef, .undef]]⟩ := by
  have cdk : codeOk Try.f119.ntmps (Try.f119.body.getD .skip) = true := by kernel_rfl
  refine run_of_WL (fn := Try.f119) rfl Try.func119 rfl ⟨by simp [Try.ntmps119], by simp [wideA, ints], cdk, by simp [Try.f119]⟩ ?_
  have h1 := run_IsPrime p
  have h2 := within_upTo a 12 12 rfl
  have h3 := areAll_has p a ha
  cases e1 : primeB p with
  | false =>
    rw [e1] at h1
    simp [go_sem, -map_replicate, -map_set, -map_append, -map_reverse, -map_take, -map_drop, -map_tail, -any_map, -all_map, -mapM_map, -map_map, slL, szI, ldI, zI, undL, apL, setI, rdI_get, Nat.add_one_le_iff, fillV, zeros1, zeros0, appendD, segV, lvO, goneOf, sliceD, bound, Nat.add_assoc, szL, ldL, setCs0, setCs1, setCs2, setCsA2, setCsA3, ldM, fM0, fM1, szM, zM, plM0, plM1, agM, paM, ldJ, fJ0, fJ1, fJ2, szJ, zJ, plJ0, plJ1, plJ2, agJ, paJ, h1]
    refine ⟨by kernel_rfl, by kernel_rfl, ?_⟩
    simp [mvcgen_simp, -map_replicate, -map_set, -map_append, -map_reverse, -map_take, -map_drop, -map_tail, -any_map, -all_map, -mapM_map, -map_map, Try.f119, jacB, e1]
  | true =>
    have h4 := areAll_isUnit p (prime_range e1) b hb
    rw [e1] at h1
    cases e2 : upTo a 12 with
    | false =>
      rw [e2] at h2
      simp [go_sem, -map_replicate, -map_set, -map_append, -map_reverse, -map_take, -map_drop, -map_tail, -any_map, -all_map, -mapM_map, -map_map, slL, szI, ldI, zI, undL, apL, setI, rdI_get, Nat.add_one_le_iff, fillV, zeros1, zeros0, appendD, segV, lvO, goneOf, sliceD, bound, Nat.add_assoc, szL, ldL, setCs0, setCs1, setCs2, setCsA2, setCsA3, ldM, fM0, fM1, szM, zM, plM0, plM1, agM, paM, ldJ, fJ0, fJ1, fJ2, szJ, zJ, plJ0, plJ1, plJ2, agJ, paJ, h1, run_Jsize, h2]
      refine ⟨by kernel_rfl, by kernel_rfl, ?_⟩
      simp [mvcgen_simp, -map_replicate, -map_set, -map_append, -map_reverse, -map_take, -map_drop, -map_tail, -any_map, -all_map, -mapM_map, -map_map, Try.f119, jacB, e1, e2]
    | true =>
      rw [e2] at h2
      by_cases e3 : b.length = a.length
      case neg =>
        have e3' : ¬ (b.length : Int) = a.length := by omega
        simp [go_sem, -map_replicate, -map_set, -map_append, -map_reverse, -map_take, -map_drop, -map_tail, -any_map, -all_map, -mapM_map, -map_map, slL, szI, ldI, zI, undL, apL, setI, rdI_get, Nat.add_one_le_iff, fillV, zeros1, zeros0, appendD, segV, lvO, goneOf, sliceD, bound, Nat.add_assoc, szL, ldL, setCs0, setCs1, setCs2, setCsA2, setCsA3, ldM, fM0, fM1, szM, zM, plM0, plM1, agM, paM, ldJ, fJ0, fJ1, fJ2, szJ, zJ, plJ0, plJ1, plJ2, agJ, paJ, h1, run_Jsize, h2, e3']
        refine ⟨by kernel_rfl, by kernel_rfl, ?_⟩
        simp [mvcgen_simp, -map_replicate, -map_set, -map_append, -map_reverse, -map_take, -map_drop, -map_tail, -any_map, -all_map, -mapM_map, -map_map, Try.f119, jacB, e1, e2, e3]
      have e3' : (b.length : Int) = a.length := by omega
      cases e4 : a.all (hasB p) with
      | false =>
        rw [e4] at h3
        simp [go_sem, -map_replicate, -map_set, -map_append, -map_reverse, -map_take, -map_drop, -map_tail, -any_map, -all_map, -mapM_map, -map_map, slL, szI, ldI, zI, undL, apL, setI, rdI_get, Nat.add_one_le_iff, fillV, zeros1, zeros0, appendD, segV, lvO, goneOf, sliceD, bound, Nat.add_assoc, szL, ldL, setCs0, setCs1, setCs2, setCsA2, setCsA3, ldM, fM0, fM1, szM, zM, plM0, plM1, agM, paM, ldJ, fJ0, fJ1, fJ2, szJ, zJ, plJ0, plJ1, plJ2, agJ, paJ, h1, run_Jsize, h2, e3', run_Jfield, h3]
        refine ⟨by kernel_rfl, by kernel_rfl, ?_⟩
        simp [mvcgen_simp, -map_replicate, -map_set, -map_append, -map_reverse, -map_take, -map_drop, -map_tail, -any_map, -all_map, -mapM_map, -map_map, Try.f119, jacB, e1, e2, e3, e4]
      | true =>
        rw [e4] at h3
        simp [go_sem, -map_replicate, -map_set, -map_append, -map_reverse, -map_take, -map_drop, -map_tail, -any_map, -all_map, -mapM_map, -map_map, slL, szI, ldI, zI, undL, apL, setI, rdI_get, Nat.add_one_le_iff, fillV, zeros1, zeros0, appendD, segV, lvO, goneOf, sliceD, bound, Nat.add_assoc, szL, ldL, setCs0, setCs1, setCs2, setCsA2, setCsA3, ldM, fM0, fM1, szM, zM, plM0, plM1, agM, paM, ldJ, fJ0, fJ1, fJ2, szJ, zJ, plJ0, plJ1, plJ2, agJ, paJ, h1, run_Jsize, h2, e3', run_Jfield, h3, h4]
        refine ⟨by kernel_rfl, by kernel_rfl, ?_⟩
        simp [mvcgen_simp, -map_replicate, -map_set, -map_append, -map_reverse, -map_take, -map_drop, -map_tail, -any_map, -all_map, -mapM_map, -map_map, Try.f119, jacB, e1, e2, e3, e4]

theorem run_jacobiCode (p : Int) (a b : List Int) (r : Bool) (ha : a.length ≤ 9223372036854775807) (hb : b.length ≤ 9223372036854775807) :
    runv E0 45 [(V.agg [V.int .i64 (p), (V.list (List.length (a)) (List.map (V.int .i64) (a))), (V.list (List.length (b)) (List.map (V.int .i64) (b)))]), .bool r] = some ⟨true, .int .i64 (if jacB p a b then (if r then 0 else 2) else 1), [.agg [.undef, .undef, .undef], .undef]⟩ := by
  have cdk : codeOk Try.f45.ntmps (Try.f45.body.getD .skip) = true := by kernel_rfl
  refine run_of_WL (fn := Try.f45) rfl Try.func45 rfl ⟨by simp [Try.ntmps45], by simp [wideA, ints], cdk, by simp [Try.f45]⟩ ?_
  have h1 := run_IsJacobi p a b ha hb
  cases e1 : jacB p a b <;> rw [e1] at h1 <;> cases r <;> simp [go_sem, -map_replicate, -map_set, -map_append, -map_reverse, -map_take, -map_drop, -map_tail, -any_map, -all_map, -mapM_map, -map_map, slL, szI, ldI, zI, undL, apL, setI, rdI_get, Nat.add_one_le_iff, fillV, zeros1, zeros0, appendD, segV, lvO, goneOf, sliceD, bound, Nat.add_assoc, szL, ldL, setCs0, setCs1, setCs2, setCsA2, setCsA3, ldM, fM0, fM1, szM, zM, plM0, plM1, agM, paM, ldJ, fJ0, fJ1, fJ2, szJ, zJ, plJ0, plJ1, plJ2, agJ, paJ, h1] <;> simp [mvcgen_simp, -map_replicate, -map_set, -map_append, -map_reverse, -map_take, -map_drop, -map_tail, -any_map, -all_map, -mapM_map, -map_map, Try.f45, szL, ldL, setCs0, setCs1, setCs2, setCsA2, setCsA3, ldM, fM0, fM1, szM, zM, plM0, plM1, agM, paM, ldJ, fJ0, fJ1, fJ2, szJ, zJ, plJ0, plJ1, plJ2, agJ, paJ]

theorem run_l03Is (p : Int) (a b : List Int) (ha : a.length ≤ 9223372036854775807) (hb : b.length ≤ 9223372036854775807) : runv E0 49 [(V.agg [V.int .i64 (p), (V.list (List.length (a)) (List.map (V.int .i64) (a))), (V.list (List.length (b)) (List.map (V.int .i64) (b)))])] = some ⟨true, .bool (jacB p a b), [.agg [.undef, .undef, .undef]]⟩ := by
  have cdk : codeOk Try.f49.ntmps (Try.f49.body.getD .skip) = true := by kernel_rfl
  refine run_of_WL (fn := Try.f49) rfl Try.func49 rfl ⟨by simp [Try.ntmps49], by simp [wideA, ints], cdk, by simp [Try.f49]⟩ ?_
  have h1 := run_l01Prime p
  cases e1 : primeB p with
  | false =>
    rw [e1] at h1
    simp [go_sem, -map_replicate, -map_set, -map_append, -map_reverse, -map_take, -map_drop, -map_tail, -any_map, -all_map, -mapM_map, -map_map, slL, szI, ldI, zI, undL, apL, setI, rdI_get, Nat.add_one_le_iff, fillV, zeros1, zeros0, appendD, segV, lvO, goneOf, sliceD, bound, Nat.add_assoc, szL, ldL, setCs0, setCs1, setCs2, setCsA2, setCsA3, ldM, fM0, fM1, szM, zM, plM0, plM1, agM, paM, ldJ, fJ0, fJ1, fJ2, szJ, zJ, plJ0, plJ1, plJ2, agJ, paJ, h1]
    simp [mvcgen_simp, -map_replicate, -map_set, -map_append, -map_reverse, -map_take, -map_drop, -map_tail, -any_map, -all_map, -mapM_map, -map_map, Try.f49, jacB, e1]
  | true =>
    rw [e1] at h1
    have hp := prime_range e1
    have w : IntKind.i64.wrap (p - 1) = p - 1 := IntWalk.i64_in _ (by omega)
    by_cases e2 : (a.length : Int) < 1
    · have e2' : ¬ 1 ≤ a.length := by omega
      simp [go_sem, -map_replicate, -map_set, -map_append, -map_reverse, -map_take, -map_drop, -map_tail, -any_map, -all_map, -mapM_map, -map_map, slL, szI, ldI, zI, undL, apL, setI, rdI_get, Nat.add_one_le_iff, fillV, zeros1, zeros0, appendD, segV, lvO, goneOf, sliceD, bound, Nat.add_assoc, szL, ldL, setCs0, setCs1, setCs2, setCsA2, setCsA3, ldM, fM0, fM1, szM, zM, plM0, plM1, agM, paM, ldJ, fJ0, fJ1, fJ2, szJ, zJ, plJ0, plJ1, plJ2, agJ, paJ, h1, e2]
      simp [mvcgen_simp, -map_replicate, -map_set, -map_append, -map_reverse, -map_take, -map_drop, -map_tail, -any_map, -all_map, -mapM_map, -map_map, Try.f49, jacB, upTo, e1, e2']
    by_cases e3 : (12 : Int) < a.length
    · have e3' : ¬ a.length ≤ 12 := by omega
      simp [go_sem, -map_replicate, -map_set, -map_append, -map_reverse, -map_take, -map_drop, -map_tail, -any_map, -all_map, -mapM_map, -map_map, slL, szI, ldI, zI, undL, apL, setI, rdI_get, Nat.add_one_le_iff, fillV, zeros1, zeros0, appendD, segV, lvO, goneOf, sliceD, bound, Nat.add_assoc, szL, ldL, setCs0, setCs1, setCs2, setCsA2, setCsA3, ldM, fM0, fM1, szM, zM, plM0, plM1, agM, paM, ldJ, fJ0, fJ1, fJ2, szJ, zJ, plJ0, plJ1, plJ2, agJ, paJ, h1, e2, e3]
      simp [mvcgen_simp, -map_replicate, -map_set, -map_append, -map_reverse, -map_take, -map_drop, -map_tail, -any_map, -all_map, -mapM_map, -map_map, Try.f49, jacB, upTo, e1, e3']
    by_cases e4 : b.length = a.length
    case neg =>
      have e4' : ¬ (b.length : Int) = a.length := by omega
      simp [go_sem, -map_replicate, -map_set, -map_append, -map_reverse, -map_take, -map_drop, -map_tail, -any_map, -all_map, -mapM_map, -map_map, slL, szI, ldI, zI, undL, apL, setI, rdI_get, Nat.add_one_le_iff, fillV, zeros1, zeros0, appendD, segV, lvO, goneOf, sliceD, bound, Nat.add_assoc, szL, ldL, setCs0, setCs1, setCs2, setCsA2, setCsA3, ldM, fM0, fM1, szM, zM, plM0, plM1, agM, paM, ldJ, fJ0, fJ1, fJ2, szJ, zJ, plJ0, plJ1, plJ2, agJ, paJ, h1, e2, e3, e4']
      simp [mvcgen_simp, -map_replicate, -map_set, -map_append, -map_reverse, -map_take, -map_drop, -map_tail, -any_map, -all_map, -mapM_map, -map_map, Try.f49, jacB, upTo, e1, e4]
    have e4' : (b.length : Int) = a.length := by omega
    simp [go_sem, -map_replicate, -map_set, -map_append, -map_reverse, -map_take, -map_drop, -map_tail, -any_map, -all_map, -mapM_map, -map_map, slL, szI, ldI, zI, undL, apL, setI, rdI_get, Nat.add_one_le_iff, fillV, zeros1, zeros0, appendD, segV, lvO, goneOf, sliceD, bound, Nat.add_assoc, szL, ldL, setCs0, setCs1, setCs2, setCsA2, setCsA3, ldM, fM0, fM1, szM, zM, plM0, plM1, agM, paM, ldJ, fJ0, fJ1, fJ2, szJ, zJ, plJ0, plJ1, plJ2, agJ, paJ, h1, e2, e3, e4']
    rw [WL_loop]
    refine WL_count (I := fun i st => st.fr 1 = .ptr 8 0 0 ∧ st.fr 3 = .int .i64 i ∧ st.H 8 = some (⟨0, 1, 1, [.int .i64 p, (V.list (List.length (a)) (List.map (V.int .i64) (a))), (V.list (List.length (b)) (List.map (V.int .i64) (b)))]⟩) ∧ 8 < st.nx ∧ (∀ j, j < i → hasB p (rdI a j) = true ∧ unitB p (rdI b j) = true)) a.length ?_ ?_ 0 _ (by omega) ?_
    · rintro i st hi ⟨he0, he1, he2, he3, he4⟩ next
      have hib : i < b.length := by omega
      have w1 : IntKind.i64.wrap ((i : Int) + 1) = (i : Int) + 1 := IntWalk.i64_in _ (by omega)
      have i1 := run_l01In' (rdI a i) 0 (p - 1)
      have i2 := run_l01In' (rdI b i) 1 (p - 1)
      rw [show (decide (0 ≤ rdI a i) && decide (rdI a i ≤ p - 1)) = hasB p (rdI a i) by unfold hasB; congr 1; rw [decide_eq_decide]; omega] at i1
      rw [show (decide (1 ≤ rdI b i) && decide (rdI b i ≤ p - 1)) = unitB p (rdI b i) by unfold unitB; congr 1; rw [decide_eq_decide]; omega] at i2
      cases x1 : hasB p (rdI a i) with
      | false =>
        rw [x1] at i1
        simp [go_sem, -map_replicate, -map_set, -map_append, -map_reverse, -map_take, -map_drop, -map_tail, -any_map, -all_map, -mapM_map, -map_map, slL, szI, ldI, zI, undL, apL, setI, rdI_get, Nat.add_one_le_iff, fillV, zeros1, zeros0, appendD, segV, lvO, goneOf, sliceD, bound, Nat.add_assoc, szL, ldL, setCs0, setCs1, setCs2, setCsA2, setCsA3, ldM, fM0, fM1, szM, zM, plM0, plM1, agM, paM, ldJ, fJ0, fJ1, fJ2, szJ, zJ, plJ0, plJ1, plJ2, agJ, paJ, he0, he1, he2, hi, hib, w, w1, i1]
        refine ⟨by kernel_rfl, by kernel_rfl, ?_⟩
        simp [mvcgen_simp, -map_replicate, -map_set, -map_append, -map_reverse, -map_take, -map_drop, -map_tail, -any_map, -all_map, -mapM_map, -map_map, Try.f49, jacB]
        intro _ _ _ h
        have := h _ (List.getElem_mem hi)
        rw [rdI_get hi, x1] at this
        cases this
      | true =>
        rw [x1] at i1
        cases x2 : unitB p (rdI b i) with
        | false =>
          rw [x2] at i2
          simp [go_sem, -map_replicate, -map_set, -map_append, -map_reverse, -map_take, -map_drop, -map_tail, -any_map, -all_map, -mapM_map, -map_map, slL, szI, ldI, zI, undL, apL, setI, rdI_get, Nat.add_one_le_iff, fillV, zeros1, zeros0, appendD, segV, lvO, goneOf, sliceD, bound, Nat.add_assoc, szL, ldL, setCs0, setCs1, setCs2, setCsA2, setCsA3, ldM, fM0, fM1, szM, zM, plM0, plM1, agM, paM, ldJ, fJ0, fJ1, fJ2, szJ, zJ, plJ0, plJ1, plJ2, agJ, paJ, he0, he1, he2, hi, hib, w, w1, i1, i2]
          refine ⟨by kernel_rfl, by kernel_rfl, ?_⟩
          simp [mvcgen_simp, -map_replicate, -map_set, -map_append, -map_reverse, -map_take, -map_drop, -map_tail, -any_map, -all_map, -mapM_map, -map_map, Try.f49, jacB]
          intro _ _ _ _
          exact ⟨_, List.getElem_mem hib, by rw [rdI_get hib, x2]⟩
        | true =>
          rw [x2] at i2
          simp [go_sem, -map_replicate, -map_set, -map_append, -map_reverse, -map_take, -map_drop, -map_tail, -any_map, -all_map, -mapM_map, -map_map, slL, szI, ldI, zI, undL, apL, setI, rdI_get, Nat.add_one_le_iff, fillV, zeros1, zeros0, appendD, segV, lvO, goneOf, sliceD, bound, Nat.add_assoc, szL, ldL, setCs0, setCs1, setCs2, setCsA2, setCsA3, ldM, fM0, fM1, szM, zM, plM0, plM1, agM, paM, ldJ, fJ0, fJ1, fJ2, szJ, zJ, plJ0, plJ1, plJ2, agJ, paJ, he0, he1, he2, hi, hib, w, w1, i1, i2]
          refine ⟨by kernel_rfl, by kernel_rfl, next _ ?_⟩
          simp [upd, he0, he1, he2]
          intro j hj
          by_cases h : j = i
          · subst h; exact ⟨x1, x2⟩
          · exact he4 j (by omega)
    · rintro st ⟨he0, he1, he2, he3, he4⟩
      simp [go_sem, -map_replicate, -map_set, -map_append, -map_reverse, -map_take, -map_drop, -map_tail, -any_map, -all_map, -mapM_map, -map_map, slL, szI, ldI, zI, undL, apL, setI, rdI_get, Nat.add_one_le_iff, fillV, zeros1, zeros0, appendD, segV, lvO, goneOf, sliceD, bound, Nat.add_assoc, szL, ldL, setCs0, setCs1, setCs2, setCsA2, setCsA3, ldM, fM0, fM1, szM, zM, plM0, plM1, agM, paM, ldJ, fJ0, fJ1, fJ2, szJ, zJ, plJ0, plJ1, plJ2, agJ, paJ, he0, he1, he2]
      simp [mvcgen_simp, -map_replicate, -map_set, -map_append, -map_reverse, -map_take, -map_drop, -map_tail, -any_map, -all_map, -mapM_map, -map_map, Try.f49, jacB, upTo, e1, e4]
      refine ⟨⟨by omega, ?_⟩, ?_⟩
      · intro x hx
        obtain ⟨j, hj, rfl⟩ := List.getElem_of_mem hx
        rw [rdI_get hj]; exact (he4 j hj).1
      · intro x hx
        obtain ⟨j, hj, rfl⟩ := List.getElem_of_mem hx
        rw [rdI_get hj]; exact (he4 j (by omega)).2
    · refine ⟨rfl, rfl, rfl, by simp, by omega⟩
end Go.Proofs.Ytacfkfdnncgjcaa.Ev

set_option linter.unusedSimpArgs false
set_option linter.unusedVariables false
namespace Go.Proofs.Ytacfkfdnncgjcaa.Ev
open Go Go.Proofs
open List (map_replicate map_set map_append map_reverse map_take map_drop map_tail any_map all_map mapM_map map_map)
set_option maxRecDepth 4000
set_option maxHeartbeats 4000000

def szJ2 (left : Int) (a b : List Int) : Int := if left < a.length then -1 else if left - a.length < b.length then -1 else left - a.length - b.length
theorem szJ2_len {a b : List Int} (h : ¬ szJ2 1048576 a b < 0) : a.length + b.length ≤ 1048576 := by
  unfold szJ2 at h
  by_cases h1 : (1048576 : Int) < a.length
  · rw [if_pos h1] at h; omega
  · rw [if_neg h1] at h
    by_cases h2 : (1048576 : Int) - a.length < b.length
    · rw [if_pos h2] at h; omega
    · omega
theorem szJ2_eq {left : Int} {a b : List Int} (h0 : 0 ≤ left) (h : ¬ szJ2 left a b < 0) : szJ2 left a b = left - a.length - b.length := by
  unfold szJ2 at h ⊢
  by_cases h1 : left < a.length
  · rw [if_pos h1] at h; omega
  · rw [if_neg h1] at h ⊢
    by_cases h2 : left - a.length < b.length
    · rw [if_pos h2] at h; omega
    · rw [if_neg h2]
end Go.Proofs.Ytacfkfdnncgjcaa.Ev
