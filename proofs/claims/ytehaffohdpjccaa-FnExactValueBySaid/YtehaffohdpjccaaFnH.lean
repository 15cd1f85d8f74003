/- The laws' helpers on lists of whole numbers. Conditions: none. -/
import Derived.Test.YtehaffohdpjccaaFnA
set_option linter.unusedSimpArgs false
set_option linter.unusedVariables false
namespace Go.Proofs.Ytehaffohdpjccaa.Ev
open Go Go.Proofs
open List (map_replicate map_set map_append map_reverse map_take map_drop map_tail any_map all_map mapM_map map_map)
set_option maxRecDepth 4000
set_option maxHeartbeats 4000000

theorem rdI_eq {l m : List Int} (h : l.length = m.length) (hk : ∀ j, j < l.length → rdI l j = rdI m j) : l = m := by
  apply List.ext_getElem h
  intro j h1 h2
  rw [rdI_get h1, rdI_get h2]
  exact hk j h1

/-! ### Lists by their elements -/
def tab (n : Nat) (g : Nat → Int) : List Int := (List.range n).map g
theorem tab_len (n : Nat) (g : Nat → Int) : (tab n g).length = n := by simp [tab]
theorem tab_rd {n p : Nat} {g : Nat → Int} (h : p < n) : rdI (tab n g) p = g p := by simp [rdI, tab, h]
theorem tab_ext {n : Nat} {g g' : Nat → Int} (h : ∀ p, p < n → g p = g' p) : tab n g = tab n g' := by
  unfold tab; apply List.map_congr_left; intro p hp; exact h p (by simpa using hp)
theorem tab_self (l : List Int) : tab l.length (rdI l) = l := by
  apply rdI_eq (tab_len _ _)
  intro j hj; rw [tab_len] at hj; exact tab_rd hj
theorem rdI_set {l : List Int} {i p : Nat} {x : Int} (h : p < l.length) : rdI (l.set i x) p = if i = p then x else rdI l p := by
  by_cases e : i = p
  · subst e; simp [rdI, h]
  · simp [rdI, e]
theorem eq_tab {l : List Int} {n : Nat} {g : Nat → Int} (hl : l.length = n) (h : ∀ p, p < n → rdI l p = g p) : l = tab n g := by
  apply rdI_eq (by rw [hl, tab_len])
  intro j hj; rw [hl] at hj; rw [h j hj, tab_rd hj]
theorem tab_set {n k : Nat} {g : Nat → Int} {x : Int} : (tab n g).set k x = tab n (fun p => if k = p then x else g p) := by
  apply eq_tab (by simp [tab_len])
  intro p hp; rw [rdI_set (by rw [tab_len]; exact hp), tab_rd hp]
theorem tab_succ (n : Nat) (g : Nat → Int) : tab (n + 1) g = tab n g ++ [g n] := by unfold tab; rw [List.range_succ]; simp
theorem tab_zero (g : Nat → Int) : tab 0 g = [] := rfl
theorem tab_replicate (n : Nat) (x : Int) : List.replicate n x = tab n (fun _ => x) := by
  apply eq_tab (by simp)
  intro p hp; simp [rdI, hp]
theorem tab_map (n : Nat) (g : Nat → Int) (f : Int → Int) : (tab n g).map f = tab n (fun p => f (g p)) := by simp [tab]

/-- A slot that holds a list of its own that grows: nil, or an object with a number beyond lo. -/
def Grow (kd : IntKind) (lo : Nat) (st : St) (t : Nat) (l : List Int) : Prop :=
  (l = [] ∧ st.fr t = .nils) ∨ ∃ id ver, st.fr t = .sl id ver 0 l.length ∧ st.H id = some ⟨ver, 2, 1, l.map (V.int kd)⟩ ∧ id < st.nx ∧ lo < id
theorem Grow.own {kd : IntKind} {st : St} {lo t id ver : Nat} {l : List Int} (n : Nat) (h : st.fr t = .sl id ver 0 n) (hn : n = l.length) (hH : st.H id = some ⟨ver, 2, 1, l.map (V.int kd)⟩) (hx : id < st.nx) (hlo : lo < id) : Grow kd lo st t l :=
  .inr ⟨id, ver, by rw [h, hn], hH, hx, hlo⟩
theorem Grow.nil {kd : IntKind} {lo : Nat} {st : St} {t : Nat} (h : st.fr t = .nils) : Grow kd lo st t [] := .inl ⟨rfl, h⟩

theorem run_eqInt64S (l m : List Int) (hl : l.length ≤ 9223372036854775807) : runv E0 10 [.list l.length (l.map (V.int .i64)), .list m.length (m.map (V.int .i64))] = some ⟨true, .bool (decide (l = m)), [.undef, .undef]⟩ := by
  have cdk : codeOk Try.f10.ntmps (Try.f10.body.getD .skip) = true := by kernel_rfl
  refine run_of_WL (fn := Try.f10) rfl Try.func10 rfl ⟨by simp [Try.ntmps10], by simp [wideA, ints], cdk, by simp [Try.f10]⟩ ?_
  by_cases hlen : l.length = m.length
  · simp [go_sem, -map_replicate, -map_set, -map_append, -map_reverse, -map_take, -map_drop, -map_tail, -any_map, -all_map, -mapM_map, -map_map, hlen]
    rw [WL_loop]
    refine WL_count (I := fun i st => st.fr 0 = .list m.length (l.map (V.int .i64)) ∧ st.fr 1 = .list m.length (m.map (V.int .i64)) ∧ st.fr 5 = .int .i64 i ∧ (∀ j, j < i → rdI l j = rdI m j)) l.length ?_ ?_ 0 _ (by omega) ?_
    · rintro i st hi ⟨he0, he1, he2, he3⟩ next
      by_cases hx : rdI l i = rdI m i
      · simp (maxSteps := 10000000) (disch := (first | omega | (simp only [List.length_set]; omega) | simp)) [go_sem, -map_replicate, -map_set, -map_append, -map_reverse, -map_take, -map_drop, -map_tail, -any_map, -all_map, -mapM_map, -map_map, if_pos, if_neg, IntWalk.i64_in, setI, getI, rdI_get, rdI_ne, decide_eq_true, decide_eq_false, Int.toNat_natCast, Int.toNat_add, he0, he1, he2, slL, ldI, undL, hx]
        refine ⟨by kernel_rfl, by kernel_rfl, next _ ?_⟩
        simp [upd, he0, he1, he2]
        intro j hj
        by_cases h : j = i
        · subst h; exact hx
        · exact he3 j (by omega)
      · simp (maxSteps := 10000000) (disch := (first | omega | (simp only [List.length_set]; omega) | simp)) [go_sem, -map_replicate, -map_set, -map_append, -map_reverse, -map_take, -map_drop, -map_tail, -any_map, -all_map, -mapM_map, -map_map, if_pos, if_neg, IntWalk.i64_in, setI, getI, rdI_get, rdI_ne, decide_eq_true, decide_eq_false, Int.toNat_natCast, Int.toNat_add, he0, he1, he2, slL, ldI, undL, hx]
        refine ⟨by kernel_rfl, by kernel_rfl, ?_⟩
        simp [mvcgen_simp, -map_replicate, -map_set, -map_append, -map_reverse, -map_take, -map_drop, -map_tail, -any_map, -all_map, -mapM_map, -map_map, Try.f10]
        intro h; subst h; exact hx rfl
    · rintro st ⟨he0, he1, he2, he3⟩
      simp (maxSteps := 10000000) (disch := (first | omega | (simp only [List.length_set]; omega) | simp)) [go_sem, -map_replicate, -map_set, -map_append, -map_reverse, -map_take, -map_drop, -map_tail, -any_map, -all_map, -mapM_map, -map_map, if_pos, if_neg, IntWalk.i64_in, setI, getI, rdI_get, rdI_ne, decide_eq_true, decide_eq_false, Int.toNat_natCast, Int.toNat_add, he0, he1, he2, slL, ldI, undL]
      simp [mvcgen_simp, -map_replicate, -map_set, -map_append, -map_reverse, -map_take, -map_drop, -map_tail, -any_map, -all_map, -mapM_map, -map_map, Try.f10]
      exact rdI_eq hlen he3
    · simp [upd]
  · have hlen' : ¬ (l.length : Int) = m.length := by omega
    simp [go_sem, -map_replicate, -map_set, -map_append, -map_reverse, -map_take, -map_drop, -map_tail, -any_map, -all_map, -mapM_map, -map_map, hlen']
    simp [mvcgen_simp, -map_replicate, -map_set, -map_append, -map_reverse, -map_take, -map_drop, -map_tail, -any_map, -all_map, -mapM_map, -map_map, Try.f10]
    intro h; subst h; exact hlen rfl

/-- What a marking leaves. -/
def marks (k : Int) (n : Nat) : List Int := (List.range n).map fun i : Nat => k + (i : Int)
theorem marks_len (k : Int) (n : Nat) : (marks k n).length = n := by simp [marks]
theorem marks_rd {k : Int} {n i : Nat} (h : i < n) : rdI (marks k n) i = k + i := by
  unfold rdI marks; simp [h]
theorem marks_succ (k : Int) (n : Nat) : marks k (n + 1) = marks k n ++ [k + n] := by
  unfold marks; rw [List.range_succ]; simp

theorem run_toInt64S (l : List Int) (hl : l.length ≤ 1048576) :
    runv E0 7 [.list l.length (l.map (V.int .i64))] = some ⟨true, .uniq 1 l.length (l.map (V.int .i64)), [.undef]⟩ := by
  have cdk : codeOk Try.f7.ntmps (Try.f7.body.getD .skip) = true := by kernel_rfl
  refine run_of_WL (fn := Try.f7) rfl Try.func7 rfl ⟨by simp [Try.ntmps7], by simp [wideA, ints], cdk, by simp [Try.f7]⟩ ?_
  have c1 : l.length * 8 ≤ 140737488355328 := by omega
  have c2 : (l.length : Int) ≤ 9223372036854775807 := by omega
  simp [go_sem, -map_replicate, -map_set, -map_append, -map_reverse, -map_take, -map_drop, -map_tail, -any_map, -all_map, -mapM_map, -map_map, slL, zI, c1, c2, zerosI]
  rw [WL_loop]
  refine WL_count (I := fun i st => ∃ id, st.fr 0 = .list l.length (l.map (V.int .i64)) ∧ st.fr 3 = .sl id 0 0 l.length ∧ st.fr 4 = .int .i64 i ∧ st.H id = some (row (l.take i ++ List.replicate (l.length - i) 0)) ∧ id < st.nx) l.length ?_ ?_ 0 _ (by omega) ?_
  · rintro i st hi ⟨id, he0, he1, he2, he3, he4⟩ next
    have hlen : (l.take i ++ List.replicate (l.length - i) 0).length = l.length := by simp; omega
    simp (maxSteps := 10000000) (disch := (first | omega | (simp only [List.length_set]; omega) | simp)) [go_sem, -map_replicate, -map_set, -map_append, -map_reverse, -map_take, -map_drop, -map_tail, -any_map, -all_map, -mapM_map, -map_map, if_pos, if_neg, IntWalk.i64_in, setI, getI, rdI_get, rdI_ne, decide_eq_true, decide_eq_false, Int.toNat_natCast, Int.toNat_add, he0, he1, he2, he3, slL, szI, ldI, undL, row, hlen]
    refine next _ ⟨id, ?_⟩
    simp [upd, row, -map_replicate, -map_set, -map_append, -map_reverse, -map_take, -map_drop, -map_tail, -map_map, he0, he1, he2, he3]
    refine ⟨?_, by omega⟩
    congr 1
    rw [List.set_append_right _ _ (by simp; omega)]
    rw [show l.length - i = (l.length - (i + 1)) + 1 by omega, List.replicate_succ]
    rw [show i - (l.take i).length = 0 by simp; omega]
    rw [List.set_cons_zero, List.take_add_one, List.append_assoc]
    simp [getI hi]
  · rintro st ⟨id, he0, he1, he2, he3, he4⟩
    simp (maxSteps := 10000000) (disch := (first | omega | (simp only [List.length_set]; omega) | simp)) [go_sem, -map_replicate, -map_set, -map_append, -map_reverse, -map_take, -map_drop, -map_tail, -any_map, -all_map, -mapM_map, -map_map, if_pos, if_neg, IntWalk.i64_in, setI, getI, rdI_get, rdI_ne, decide_eq_true, decide_eq_false, Int.toNat_natCast, Int.toNat_add, he0, he1, he2, he3, slL, szI, undL, row]
    simp [mvcgen_simp, -map_replicate, -map_set, -map_append, -map_reverse, -map_take, -map_drop, -map_tail, -any_map, -all_map, -mapM_map, -map_map, Try.f7, he0, he1, he2, he3, row]
  · simp [upd, row]

theorem run_szInt64S (l : List Int) (left : Int) (h0 : 0 ≤ left) (h1 : left ≤ 1048576) (hl : l.length ≤ 9223372036854775807) :
    runv E0 11 [.list l.length (l.map (V.int .i64)), .int .i64 left] = some ⟨true, .int .i64 (if left < l.length then -1 else left - l.length), [.undef, .undef]⟩ := by
  have cdk : codeOk Try.f11.ntmps (Try.f11.body.getD .skip) = true := by kernel_rfl
  refine run_of_WL (fn := Try.f11) rfl Try.func11 rfl ⟨by simp [Try.ntmps11], by simp [wideA, ints], cdk, by simp [Try.f11]⟩ ?_
  have w : IntKind.i64.wrap (left - l.length) = left - l.length := IntWalk.i64_in _ (by omega)
  by_cases h : left < l.length
  · have h' : left - l.length < 0 := by omega
    simp [go_sem, -map_replicate, -map_set, -map_append, -map_reverse, -map_take, -map_drop, -map_tail, -any_map, -all_map, -mapM_map, -map_map, undL, w, h']
    simp [mvcgen_simp, -map_replicate, -map_set, -map_append, -map_reverse, -map_take, -map_drop, -map_tail, -any_map, -all_map, -mapM_map, -map_map, Try.f11, h]
  · have h' : ¬ left - l.length < 0 := by omega
    simp [go_sem, -map_replicate, -map_set, -map_append, -map_reverse, -map_take, -map_drop, -map_tail, -any_map, -all_map, -mapM_map, -map_map, undL, w, h']
    simp [mvcgen_simp, -map_replicate, -map_set, -map_append, -map_reverse, -map_take, -map_drop, -map_tail, -any_map, -all_map, -mapM_map, -map_map, Try.f11, h]
end Go.Proofs.Ytehaffohdpjccaa.Ev
