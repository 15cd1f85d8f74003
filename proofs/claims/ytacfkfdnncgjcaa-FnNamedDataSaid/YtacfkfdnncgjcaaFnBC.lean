/- Polynomials as lists: sums, products, trimming, by both texts. Conditions: none. -/
/- Sums of polynomials, by both texts. Conditions: none. -/
/- Polynomials of data, by both texts. Conditions: none. -/
import Derived.Test.YtacfkfdnncgjcaaFnBA
set_option linter.unusedSimpArgs false
set_option linter.unusedVariables false
namespace Go.Proofs.Ytacfkfdnncgjcaa.Ev
open Go Go.Proofs
open List (map_replicate map_set map_append map_reverse map_take map_drop map_tail any_map all_map mapM_map map_map)
set_option maxRecDepth 4000
set_option maxHeartbeats 4000000

/-! ### Noughts at the end -/
def tln (f : List Int) : Nat → Nat
  | 0 => 0
  | n + 1 => if rdI f n = 0 then tln f n else n + 1
theorem tln_le (f : List Int) : ∀ n, tln f n ≤ n
  | 0 => Nat.le_refl _
  | n + 1 => by
    unfold tln
    split
    · exact Nat.le_succ_of_le (tln_le f n)
    · exact Nat.le_refl _
def trimL (f : List Int) : List Int := f.take (tln f f.length)
theorem trimL_len (f : List Int) : (trimL f).length = tln f f.length := by
  unfold trimL
  rw [List.length_take, Nat.min_eq_left (tln_le f f.length)]
theorem trimL_le (f : List Int) : (trimL f).length ≤ f.length := by rw [trimL_len]; exact tln_le f f.length
theorem rdI_take {f : List Int} {n i : Nat} (h : i < n) : rdI (f.take n) i = rdI f i := by
  simp [rdI, List.getElem?_take, h]
theorem rdI_out {f : List Int} {i : Nat} (h : f.length ≤ i) : rdI f i = 0 := by simp [rdI, h]
theorem trimL_fine {p : Int} (hp : 2 ≤ p ∧ p ≤ 10007) {f : List Int} (h : fine p f) : fine p (trimL f) := by
  intro i
  by_cases hi : i < (trimL f).length
  · have : rdI (trimL f) i = rdI f i := rdI_take (by rw [trimL_len] at hi; exact hi)
    rw [this]; exact h i
  · rw [rdI_out (by omega)]; omega
theorem trimL_top {f : List Int} (h : 0 < f.length) (ht : ¬ rdI f (f.length - 1) = 0) : trimL f = f := by
  unfold trimL
  obtain ⟨n, hn⟩ : ∃ n, f.length = n + 1 := ⟨f.length - 1, by omega⟩
  rw [hn] at ht ⊢
  simp only [Nat.add_sub_cancel] at ht
  rw [tln, if_neg ht, ← hn, List.take_length]
theorem trimL_zero {f : List Int} {n : Nat} (hn : f.length = n + 1) (ht : rdI f n = 0) : (trimL f).length ≤ n := by
  rw [trimL_len, hn, tln, if_pos ht]; exact tln_le f n
theorem fine_all {p : Int} {l : List Int} (h : l.all (hasB p) = true) (hp : 2 ≤ p) : fine p l := fun i => by
  by_cases hi : i < l.length
  · exact hasB_all h hi
  · rw [rdI_out (by omega)]; omega
theorem fine_nil {p : Int} (hp : 2 ≤ p) : fine p [] := fun i => by rw [rdI_out (by simp)]; omega
theorem fine_one {p : Int} (hp : 2 ≤ p) {x : Int} (hx : 0 ≤ x ∧ x < p) : fine p [x] := fun i => by
  rcases i with _ | i
  · exact hx
  · rw [rdI_out (by simp)]; omega
theorem fine_two {p : Int} (hp : 2 ≤ p) {x y : Int} (hx : 0 ≤ x ∧ x < p) (hy : 0 ≤ y ∧ y < p) : fine p [x, y] := fun i => by
  rcases i with _ | _ | i
  · exact hx
  · exact hy
  · rw [rdI_out (by simp)]; omega

theorem run_trimmed (f : List Int) (hl : f.length ≤ 1048576) :
    runv E0 130 [(V.uniq 1 (List.length (f)) (List.map (V.int .i64) (f)))] = some ⟨true, (V.uniq 1 (List.length (trimL f)) (List.map (V.int .i64) (trimL f))), [.undef]⟩ := by
  have cdk : codeOk Try.f130.ntmps (Try.f130.body.getD .skip) = true := by kernel_rfl
  refine run_of_WL (fn := Try.f130) rfl Try.func130 rfl ⟨by simp [Try.ntmps130], by simp [wideA, ints], cdk, by simp [Try.f130]⟩ ?_
  simp [go_sem, -map_replicate, -map_set, -map_append, -map_reverse, -map_take, -map_drop, -map_tail, -any_map, -all_map, -mapM_map, -map_map, slL, szI, ldI, zI, undL, apL, setI, rdI_get, Nat.add_one_le_iff, fillV, zeros1, zeros0, appendD, segV, lvO, goneOf, sliceD, bound, Nat.add_assoc]
  rw [WL_loop]
  refine WL_rounds (I := fun j st => st.fr 0 = .sl 0 0 0 j ∧ st.H 0 = some (row f) ∧ tln f j = tln f f.length ∧ j ≤ f.length) ?_ f.length _ ?_
  · rintro j st ⟨he0, he1, he2, he3⟩ next
    unfold row at he1
    rcases j with _ | j
    · have e : trimL f = [] := by unfold trimL; rw [← he2]; rfl
      simp [go_sem, -map_replicate, -map_set, -map_append, -map_reverse, -map_take, -map_drop, -map_tail, -any_map, -all_map, -mapM_map, -map_map, slL, szI, ldI, zI, undL, apL, setI, rdI_get, Nat.add_one_le_iff, fillV, zeros1, zeros0, appendD, segV, lvO, goneOf, sliceD, bound, Nat.add_assoc, he0, he1]
      simp [mvcgen_simp, -map_replicate, -map_set, -map_append, -map_reverse, -map_take, -map_drop, -map_tail, -any_map, -all_map, -mapM_map, -map_map, Try.f130, he0, he1, e]
    · have w : IntKind.i64.wrap (j : Int) = (j : Int) := IntWalk.i64_in _ (by omega)
      have b1 : j < f.length := by omega
      have b2 : (j : Int) < (j : Int) + 1 := by omega
      have b3 : (j : Int) + 1 - 1 = j := by omega
      have b4 : (0 : Int) < (j : Int) + 1 := by omega
      by_cases h : rdI f j = 0
      · simp [go_sem, -map_replicate, -map_set, -map_append, -map_reverse, -map_take, -map_drop, -map_tail, -any_map, -all_map, -mapM_map, -map_map, slL, szI, ldI, zI, undL, apL, setI, rdI_get, Nat.add_one_le_iff, fillV, zeros1, zeros0, appendD, segV, lvO, goneOf, sliceD, bound, Nat.add_assoc, he0, he1, w, b1, b2, b3, b4, h]
        refine next j _ (by omega) ?_
        rw [tln, if_pos h] at he2
        simp [upd, he0, he1, row, he2]
        omega
      · have e : trimL f = f.take (j + 1) := by unfold trimL; rw [← he2, tln, if_neg h]
        have el : (f.take (j + 1)).length = j + 1 := by simp; omega
        simp [go_sem, -map_replicate, -map_set, -map_append, -map_reverse, -map_take, -map_drop, -map_tail, -any_map, -all_map, -mapM_map, -map_map, slL, szI, ldI, zI, undL, apL, setI, rdI_get, Nat.add_one_le_iff, fillV, zeros1, zeros0, appendD, segV, lvO, goneOf, sliceD, bound, Nat.add_assoc, he0, he1, w, b1, b2, b3, b4, h]
        have b7 : j + 1 ≤ f.length := b1
        simp [mvcgen_simp, -map_replicate, -map_set, -map_append, -map_reverse, -map_take, -map_drop, -map_tail, -any_map, -all_map, -mapM_map, -map_map, Try.f130, he0, he1, e, el, b7, ← List.map_take]
  · refine ⟨rfl, rfl, rfl, Nat.le_refl _⟩
theorem run_trimmedL (f : List Int) (hl : f.length ≤ 1048576) :
    runv E0 130 [(V.list (List.length (f)) (List.map (V.int .i64) (f)))] = some ⟨false, (V.list (List.length (trimL f)) (List.map (V.int .i64) (trimL f))), [.undef]⟩ := by
  have cdk : codeOk Try.f130.ntmps (Try.f130.body.getD .skip) = true := by kernel_rfl
  refine run_of_WL (fn := Try.f130) rfl Try.func130 rfl ⟨by simp [Try.ntmps130], by simp [wideA, ints], cdk, by simp [Try.f130]⟩ ?_
  simp [go_sem, -map_replicate, -map_set, -map_append, -map_reverse, -map_take, -map_drop, -map_tail, -any_map, -all_map, -mapM_map, -map_map, slL, szI, ldI, zI, undL, apL, setI, rdI_get, Nat.add_one_le_iff, fillV, zeros1, zeros0, appendD, segV, lvO, goneOf, sliceD, bound, Nat.add_assoc]
  rw [WL_loop]
  refine WL_rounds (I := fun j st => st.fr 0 = .list j ((f.take j).map (V.int .i64)) ∧ tln f j = tln f f.length ∧ j ≤ f.length) ?_ f.length _ ?_
  · rintro j st ⟨he0, he1, he2⟩ next
    rcases j with _ | j
    · have e : trimL f = [] := by unfold trimL; rw [← he1]; rfl
      simp [go_sem, -map_replicate, -map_set, -map_append, -map_reverse, -map_take, -map_drop, -map_tail, -any_map, -all_map, -mapM_map, -map_map, slL, szI, ldI, zI, undL, apL, setI, rdI_get, Nat.add_one_le_iff, fillV, zeros1, zeros0, appendD, segV, lvO, goneOf, sliceD, bound, Nat.add_assoc, he0]
      simp [mvcgen_simp, -map_replicate, -map_set, -map_append, -map_reverse, -map_take, -map_drop, -map_tail, -any_map, -all_map, -mapM_map, -map_map, Try.f130, he0, e, isLR]
    · have w : IntKind.i64.wrap (j : Int) = (j : Int) := IntWalk.i64_in _ (by omega)
      have b1 : j < f.length := by omega
      have b2 : (j : Int) < (j : Int) + 1 := by omega
      have b3 : (j : Int) + 1 - 1 = j := by omega
      have b4 : (0 : Int) < (j : Int) + 1 := by omega
      have b5 : rdI (f.take (j + 1)) j = rdI f j := rdI_take (by omega)
      have el : (f.take (j + 1)).length = j + 1 := by simp; omega
      have et : ((f.take (j + 1)).map (V.int .i64)).take j = (f.take j).map (V.int .i64) := by
        rw [← List.map_take, List.take_take, Nat.min_eq_left (by omega)]
      have b6 : j < (f.take (j + 1)).length := by omega
      generalize hF : f.take (j + 1) = F at *
      by_cases h : rdI f j = 0
      · simp [go_sem, -map_replicate, -map_set, -map_append, -map_reverse, -map_take, -map_drop, -map_tail, -any_map, -all_map, -mapM_map, -map_map, slL, szI, ldI, zI, undL, apL, setI, rdI_get, Nat.add_one_le_iff, fillV, zeros1, zeros0, appendD, segV, lvO, goneOf, sliceD, bound, Nat.add_assoc, he0, w, b1, b2, b3, b4, b5, b6, el, et, h]
        refine next j _ (by omega) ?_
        rw [tln, if_pos h] at he1
        simp [upd, he0, he1, et]
        omega
      · have e : trimL f = F := by unfold trimL; rw [← he1, tln, if_neg h, hF]
        simp [go_sem, -map_replicate, -map_set, -map_append, -map_reverse, -map_take, -map_drop, -map_tail, -any_map, -all_map, -mapM_map, -map_map, slL, szI, ldI, zI, undL, apL, setI, rdI_get, Nat.add_one_le_iff, fillV, zeros1, zeros0, appendD, segV, lvO, goneOf, sliceD, bound, Nat.add_assoc, he0, w, b1, b2, b3, b4, b5, b6, el, et, h]
        simp [mvcgen_simp, -map_replicate, -map_set, -map_append, -map_reverse, -map_take, -map_drop, -map_tail, -any_map, -all_map, -mapM_map, -map_map, Try.f130, he0, e, el, isLR]
  · refine ⟨by simp [upd], rfl, Nat.le_refl _⟩
theorem run_l01Trim (f : List Int) (hl : f.length ≤ 1048576) :
    runv E1 127 [(V.list (List.length (f)) (List.map (V.int .i64) (f)))] = some ⟨true, (V.uniq 1 (List.length (trimL f)) (List.map (V.int .i64) (trimL f))), [.undef]⟩ := by
  have cdk : codeOk Try.f127.ntmps (Try.f127.body.getD .skip) = true := by kernel_rfl
  refine run_of_WLr (fn := Try.f127) rfl Try.func127 rfl ⟨by simp [Try.ntmps127], by simp [wideA, ints], cdk, by simp [Try.f127]⟩ rfl (by simp [rebOk, noId, adoptT, adoptA, adoptL, adoptC, depth]) ?_
  simp [go_sem, -map_replicate, -map_set, -map_append, -map_reverse, -map_take, -map_drop, -map_tail, -any_map, -all_map, -mapM_map, -map_map, slL, szI, ldI, zI, undL, apL, setI, rdI_get, Nat.add_one_le_iff, fillV, zeros1, zeros0, appendD, segV, lvO, goneOf, sliceD, bound, Nat.add_assoc]
  rw [WL_loop]
  refine WL_forX (keep := [0, 3]) (rs := resM Try.f127) rfl (by kernel_rfl) (fun j : Nat => mkSt [(0, (V.list (List.length (f)) (List.map (V.int .i64) (f)))), (3, .int .i64 (j : Int))] [] (resM Try.f127)) (fun j => tln f j = tln f f.length ∧ j ≤ f.length) (fun j => j) ?_ f.length _ ?_ rfl ?_
  · rintro j ⟨he, hj⟩ next
    have ow := up (run_l01Own (trimL f) (Nat.le_trans (trimL_le f) hl))
    rw [trimL_len] at ow
    have etk : trimL f = f.take (tln f f.length) := rfl
    rcases j with _ | j
    · rw [← he] at etk ow
      rw [etk] at ow ⊢
      simp only [tln, List.take_zero, Int.cast_ofNat_Int, List.length_nil, List.map_nil] at ow ⊢
      simp [go_sem, -map_replicate, -map_set, -map_append, -map_reverse, -map_take, -map_drop, -map_tail, -any_map, -all_map, -mapM_map, -map_map, slL, szI, ldI, zI, undL, apL, setI, rdI_get, Nat.add_one_le_iff, fillV, zeros1, zeros0, appendD, segV, lvO, goneOf, sliceD, bound, Nat.add_assoc, ow]
      simp [mvcgen_simp, -map_replicate, -map_set, -map_append, -map_reverse, -map_take, -map_drop, -map_tail, -any_map, -all_map, -mapM_map, -map_map, Try.f127]
    · have w : IntKind.i64.wrap (j : Int) = (j : Int) := IntWalk.i64_in _ (by omega)
      have b1 : j < f.length := by omega
      have b4 : (0 : Int) < (j : Int) + 1 := by omega
      have b5 : (j : Int) < f.length := by omega
      have b6 : j + 1 ≤ f.length := by omega
      have b7 : (0 : Int) ≤ (j : Int) + 1 := by omega
      by_cases h : rdI f j = 0
      · simp [go_sem, -map_replicate, -map_set, -map_append, -map_reverse, -map_take, -map_drop, -map_tail, -any_map, -all_map, -mapM_map, -map_map, slL, szI, ldI, zI, undL, apL, setI, rdI_get, Nat.add_one_le_iff, fillV, zeros1, zeros0, appendD, segV, lvO, goneOf, sliceD, bound, Nat.add_assoc, w, b1, b4, b5, h]
        refine next j _ ⟨?_, by omega⟩ (by omega) rfl ?_
        · rw [← he, tln, if_pos h]
        · (refine canon_mk ?_; simp [method_specs_simp, ordIds_app, ordRen_app, ordIds_app2, ordRen_app2, -map_replicate, -map_set, -map_append, -map_reverse, -map_take, -map_drop, -map_tail, -map_map])
      · have et : tln f f.length = j + 1 := by rw [← he, tln, if_neg h]
        rw [et] at etk ow
        rw [etk] at ow ⊢
        have el : (f.take (j + 1)).length = j + 1 := by simp; omega
        have em : List.take (j + 1) (List.map (V.int .i64) f) = List.map (V.int .i64) (f.take (j + 1)) := by rw [List.map_take]
        generalize f.take (j + 1) = F at *
        simp [go_sem, -map_replicate, -map_set, -map_append, -map_reverse, -map_take, -map_drop, -map_tail, -any_map, -all_map, -mapM_map, -map_map, slL, szI, ldI, zI, undL, apL, setI, rdI_get, Nat.add_one_le_iff, fillV, zeros1, zeros0, appendD, segV, lvO, goneOf, sliceD, bound, Nat.add_assoc, w, b1, b4, b5, b6, b7, h, ow, em]
        simp [mvcgen_simp, -map_replicate, -map_set, -map_append, -map_reverse, -map_take, -map_drop, -map_tail, -any_map, -all_map, -mapM_map, -map_map, Try.f127, el]
  · exact ⟨rfl, Nat.le_refl _⟩
  · (refine canon_mk ?_; simp [method_specs_simp, ordIds_app, ordRen_app, ordIds_app2, ordRen_app2, -map_replicate, -map_set, -map_append, -map_reverse, -map_take, -map_drop, -map_tail, -map_map])
end Go.Proofs.Ytacfkfdnncgjcaa.Ev

set_option linter.unusedSimpArgs false
set_option linter.unusedVariables false
namespace Go.Proofs.Ytacfkfdnncgjcaa.Ev
open Go Go.Proofs
open List (map_replicate map_set map_append map_reverse map_take map_drop map_tail any_map all_map mapM_map map_map)
set_option maxRecDepth 4000
set_option maxHeartbeats 4000000

def addR (p : Int) (f g : List Int) (k : Int) : List Int := inpl (max f.length g.length) g.length (fun i => (rdI f i + k * rdI g i) % p) (rdI f)
def addP (p : Int) (f g : List Int) (k : Int) : List Int := trimL (addR p f g k)
theorem addR_len (p : Int) (f g : List Int) (k : Int) : (addR p f g k).length = max f.length g.length := inpl_len _ _ _ _
theorem addP_le (p : Int) (f g : List Int) (k : Int) : (addP p f g k).length ≤ max f.length g.length := by
  have := trimL_le (addR p f g k); rw [addR_len] at this; exact this
theorem inpl_at {n i j : Nat} {f g : Nat → Int} (h : j < n) : rdI (inpl n i f g) j = if j < i then f j else g j := by unfold inpl; rw [tab_rd h]
theorem addR_fine {p : Int} (hp : 2 ≤ p ∧ p ≤ 10007) {f g : List Int} (hf : fine p f) (k : Int) : fine p (addR p f g k) := by
  intro j
  by_cases hj : j < max f.length g.length
  · unfold addR; rw [inpl_at hj]
    split
    · exact mod_small hp _
    · exact hf j
  · rw [rdI_out (by rw [addR_len]; omega)]; omega
theorem addP_fine {p : Int} (hp : 2 ≤ p ∧ p ≤ 10007) {f g : List Int} (hf : fine p f) (k : Int) : fine p (addP p f g k) := trimL_fine hp (addR_fine hp hf k)
theorem setCs_zeros {n : Nat} {f : List Int} (h : f.length ≤ n) (F : Nat → Int) : setCs (List.map (V.int .i64) (List.replicate n 0)) 0 (List.map (V.int .i64) f) = List.map (V.int .i64) (inpl n 0 F (rdI f)) := by
  unfold setCs
  rw [List.take_zero, List.nil_append, Nat.zero_add, List.length_map, ← List.map_drop, ← List.map_append]
  congr 1
  rw [inpl_zero]
  apply eq_tab (by simp; omega)
  intro i hi
  simp only [rdI, List.getD_eq_getElem?_getD, List.getElem?_append]
  by_cases hf : i < f.length
  · simp [hf]
  · simp [hf]
    rw [List.getElem?_replicate]
    split <;> rfl

theorem run_add (p k : Int) (f g : List Int) (hp : 2 ≤ p ∧ p ≤ 10007) (hf : fine p f) (hg : fine p g) (hk : 0 ≤ k ∧ k < p) (hlf : f.length ≤ 1000) (hlg : g.length ≤ 1000) :
    runv E1 138 [.int .i64 p, (V.list (List.length (f)) (List.map (V.int .i64) (f))), (V.list (List.length (g)) (List.map (V.int .i64) (g))), .int .i64 k] = some ⟨true, (V.uniq 1 (List.length (addP p f g k)) (List.map (V.int .i64) (addP p f g k))), [.undef, .undef, .undef, .undef]⟩ := by
  have cdk : codeOk Try.f138.ntmps (Try.f138.body.getD .skip) = true := by kernel_rfl
  refine run_of_WLr (fn := Try.f138) rfl Try.func138 rfl ⟨by simp [Try.ntmps138], by simp [wideA, ints], cdk, by simp [Try.f138]⟩ rfl (by simp [rebOk, noId, adoptT, adoptA, adoptL, adoptC, depth]) ?_
  obtain ⟨n, hn⟩ : ∃ n, n = max f.length g.length := ⟨_, rfl⟩
  have mm : mmV mxI [V.int .i64 f.length, V.int .i64 g.length] = some (V.int .i64 (n : Int)) := by
    simp [mmV, mxI]
    split <;> omega
  have c1 : n * 8 ≤ 140737488355328 := by omega
  have c2 : (n : Int) ≤ 9223372036854775807 := by omega
  have c3 : f.length ≤ n := by omega
  have c4 : min f.length n = f.length := by omega
  have cz := setCs_zeros c3 (fun i => (rdI f i + k * rdI g i) % p)
  have tf : List.take f.length (List.map (V.int .i64) f) = List.map (V.int .i64) f := take_map_full (Nat.le_refl _)
  simp [go_sem, -map_replicate, -map_set, -map_append, -map_reverse, -map_take, -map_drop, -map_tail, -any_map, -all_map, -mapM_map, -map_map, slL, szI, ldI, zI, undL, apL, setI, rdI_get, Nat.add_one_le_iff, fillV, zeros1, zeros0, appendD, segV, lvO, goneOf, sliceD, bound, Nat.add_assoc, mm, c1, c2, c3, c4, zerosI, copyD, tf, cz]
  rw [WL_loop]
  refine WL_for (keep := [0, 3, 9, 21, 22, 23]) (rs := resM Try.f138) rfl (by kernel_rfl) (fun i => mkSt [(0, .int .i64 p), (3, .int .i64 k), (9, .sl 0 0 0 n), (21, (V.list (List.length (g)) (List.map (V.int .i64) (g)))), (22, .int .i64 (g.length : Int)), (23, .int .i64 (i : Int))] [some (⟨0, 2, 1, (inpl n i (fun i => (rdI f i + k * rdI g i) % p) (rdI f)).map (V.int .i64)⟩)] (resM Try.f138)) g.length ?_ ?_ 0 _ (by omega) rfl ?_
  · intro i hi next
    have h1 := hf i
    have h2 := hg i
    have hm := mul_small hp hk h2
    have lA := inpl_len n i (fun i => (rdI f i + k * rdI g i) % p) (rdI f)
    have rA := inpl_rd (i := i) (f := fun i => (rdI f i + k * rdI g i) % p) (g := rdI f) (show i < n by omega)
    have sA : (inpl n i (fun i => (rdI f i + k * rdI g i) % p) (rdI f)).set i ((rdI f i + k * rdI g i) % p) = _ := inpl_set n i (fun i => (rdI f i + k * rdI g i) % p) (rdI f)
    have d1 := up (run_mod p (rdI f i + k * rdI g i) hp)
    have w1 : IntKind.i64.wrap (k * rdI g i) = k * rdI g i := IntWalk.i64_in _ (by omega)
    have w2 : IntKind.i64.wrap (rdI f i + k * rdI g i) = rdI f i + k * rdI g i := IntWalk.i64_in _ (by omega)
    have w3 : IntKind.i64.wrap ((i : Int) + 1) = (i : Int) + 1 := IntWalk.i64_in _ (by omega)
    have k1 : i < n := by omega
    generalize inpl n i (fun i => (rdI f i + k * rdI g i) % p) (rdI f) = A at *
    simp [go_sem, -map_replicate, -map_set, -map_append, -map_reverse, -map_take, -map_drop, -map_tail, -any_map, -all_map, -mapM_map, -map_map, slL, szI, ldI, zI, undL, apL, setI, rdI_get, Nat.add_one_le_iff, fillV, zeros1, zeros0, appendD, segV, lvO, goneOf, sliceD, bound, Nat.add_assoc, hi, k1, lA, rA, d1, w1, w2, w3, setCs1, setCs0]
    repeat refine ⟨by kernel_rfl, by kernel_rfl, ?_⟩
    refine next _ rfl ?_
    (refine canon_mk ?_; simp [method_specs_simp, ordIds_app, ordRen_app, ordIds_app2, ordRen_app2, -map_replicate, -map_set, -map_append, -map_reverse, -map_take, -map_drop, -map_tail, -map_map, sA])
  · have e : inpl n g.length (fun i => (rdI f i + k * rdI g i) % p) (rdI f) = addR p f g k := by unfold addR; rw [hn]
    have lR := addR_len p f g k
    have ht := up (run_trimmed (addR p f g k) (by omega))
    rw [e]
    rw [lR, ← hn] at ht
    simp [go_sem, -map_replicate, -map_set, -map_append, -map_reverse, -map_take, -map_drop, -map_tail, -any_map, -all_map, -mapM_map, -map_map, slL, szI, ldI, zI, undL, apL, setI, rdI_get, Nat.add_one_le_iff, fillV, zeros1, zeros0, appendD, segV, lvO, goneOf, sliceD, bound, Nat.add_assoc, ht, lR, ← hn]
    simp [mvcgen_simp, -map_replicate, -map_set, -map_append, -map_reverse, -map_take, -map_drop, -map_tail, -any_map, -all_map, -mapM_map, -map_map, Try.f138, addP]
  · (refine canon_mk ?_; simp [method_specs_simp, ordIds_app, ordRen_app, ordIds_app2, ordRen_app2, -map_replicate, -map_set, -map_append, -map_reverse, -map_take, -map_drop, -map_tail, -map_map])
theorem run_l01Add (p k : Int) (f g : List Int) (hp : 2 ≤ p ∧ p ≤ 10007) (hf : fine p f) (hg : fine p g) (hk : 0 ≤ k ∧ k < p) (hlf : f.length ≤ 1000) (hlg : g.length ≤ 1000) :
    runv E1 102 [.int .i64 p, (V.list (List.length (f)) (List.map (V.int .i64) (f))), (V.list (List.length (g)) (List.map (V.int .i64) (g))), .int .i64 k] = some ⟨true, (V.uniq 1 (List.length (addP p f g k)) (List.map (V.int .i64) (addP p f g k))), [.undef, .undef, .undef, .undef]⟩ := by
  have cdk : codeOk Try.f102.ntmps (Try.f102.body.getD .skip) = true := by kernel_rfl
  refine run_of_WLr (fn := Try.f102) rfl Try.func102 rfl ⟨by simp [Try.ntmps102], by simp [wideA, ints], cdk, by simp [Try.f102]⟩ rfl (by simp [rebOk, noId, adoptT, adoptA, adoptL, adoptC, depth]) ?_
  obtain ⟨n, hn⟩ : ∃ n, n = max f.length g.length := ⟨_, rfl⟩
  have mm : mmV mxI [V.int .i64 f.length, V.int .i64 g.length] = some (V.int .i64 (n : Int)) := by
    simp [mmV, mxI]
    split <;> omega
  have c1 : n * 8 ≤ 140737488355328 := by omega
  have c2 : (n : Int) ≤ 9223372036854775807 := by omega
  simp [go_sem, -map_replicate, -map_set, -map_append, -map_reverse, -map_take, -map_drop, -map_tail, -any_map, -all_map, -mapM_map, -map_map, slL, szI, ldI, zI, undL, apL, setI, rdI_get, Nat.add_one_le_iff, fillV, zeros1, zeros0, appendD, segV, lvO, goneOf, sliceD, bound, Nat.add_assoc, mm, c1, c2, zerosI]
  rw [WL_loop]
  refine WL_for (keep := [0, 1, 2, 3, 9, 10]) (rs := resM Try.f102) rfl (by kernel_rfl) (fun i => mkSt [(0, .int .i64 p), (1, (V.list (List.length (f)) (List.map (V.int .i64) (f)))), (2, (V.list (List.length (g)) (List.map (V.int .i64) (g)))), (3, .int .i64 k), (9, .sl 0 0 0 n), (10, .int .i64 (i : Int))] [some (⟨0, 2, 1, (inpl n i (rdI f) (fun _ => 0)).map (V.int .i64)⟩)] (resM Try.f102)) f.length ?_ ?_ 0 _ (by omega) rfl ?_
  · intro i hi next
    have lA := inpl_len n i (rdI f) (fun _ => 0)
    have sA : (inpl n i (rdI f) (fun _ => 0)).set i (rdI f i) = _ := inpl_set n i (rdI f) (fun _ => 0)
    have w3 : IntKind.i64.wrap ((i : Int) + 1) = (i : Int) + 1 := IntWalk.i64_in _ (by omega)
    have k1 : i < n := by omega
    generalize inpl n i (rdI f) (fun _ => 0) = A at *
    simp [go_sem, -map_replicate, -map_set, -map_append, -map_reverse, -map_take, -map_drop, -map_tail, -any_map, -all_map, -mapM_map, -map_map, slL, szI, ldI, zI, undL, apL, setI, rdI_get, Nat.add_one_le_iff, fillV, zeros1, zeros0, appendD, segV, lvO, goneOf, sliceD, bound, Nat.add_assoc, hi, k1, lA, w3, setCs1, setCs0]
    repeat refine ⟨by kernel_rfl, by kernel_rfl, ?_⟩
    refine next _ rfl ?_
    (refine canon_mk ?_; simp [method_specs_simp, ordIds_app, ordRen_app, ordIds_app2, ordRen_app2, -map_replicate, -map_set, -map_append, -map_reverse, -map_take, -map_drop, -map_tail, -map_map, sA])
  · have e0 : inpl n f.length (rdI f) (fun _ => 0) = inpl n 0 (fun i => (rdI f i + k * rdI g i) % p) (rdI f) := by
      rw [inpl_zero]
      apply tab_ext
      intro j hj
      split
      · rfl
      · rw [rdI_out (by omega)]
    rw [e0]
    simp [go_sem, -map_replicate, -map_set, -map_append, -map_reverse, -map_take, -map_drop, -map_tail, -any_map, -all_map, -mapM_map, -map_map, slL, szI, ldI, zI, undL, apL, setI, rdI_get, Nat.add_one_le_iff, fillV, zeros1, zeros0, appendD, segV, lvO, goneOf, sliceD, bound, Nat.add_assoc]
    rw [WL_loop]
    refine WL_for (keep := [0, 2, 3, 9, 11]) (rs := resM Try.f102) rfl (by kernel_rfl) (fun i => mkSt [(0, .int .i64 p), (2, (V.list (List.length (g)) (List.map (V.int .i64) (g)))), (3, .int .i64 k), (9, .sl 0 0 0 n), (11, .int .i64 (i : Int))] [some (⟨0, 2, 1, (inpl n i (fun i => (rdI f i + k * rdI g i) % p) (rdI f)).map (V.int .i64)⟩)] (resM Try.f102)) g.length ?_ ?_ 0 _ (by omega) rfl ?_
    · intro i hi next
      have h1 := hf i
      have h2 := hg i
      have hm := mul_small hp hk h2
      have lA := inpl_len n i (fun i => (rdI f i + k * rdI g i) % p) (rdI f)
      have rA := inpl_rd (i := i) (f := fun i => (rdI f i + k * rdI g i) % p) (g := rdI f) (show i < n by omega)
      have sA : (inpl n i (fun i => (rdI f i + k * rdI g i) % p) (rdI f)).set i ((rdI f i + k * rdI g i) % p) = _ := inpl_set n i (fun i => (rdI f i + k * rdI g i) % p) (rdI f)
      have d1 := up (run_l01Mod p (rdI f i + k * rdI g i) hp)
      have w1 : IntKind.i64.wrap (k * rdI g i) = k * rdI g i := IntWalk.i64_in _ (by omega)
      have w2 : IntKind.i64.wrap (rdI f i + k * rdI g i) = rdI f i + k * rdI g i := IntWalk.i64_in _ (by omega)
      have w3 : IntKind.i64.wrap ((i : Int) + 1) = (i : Int) + 1 := IntWalk.i64_in _ (by omega)
      have k1 : i < n := by omega
      generalize inpl n i (fun i => (rdI f i + k * rdI g i) % p) (rdI f) = A at *
      simp [go_sem, -map_replicate, -map_set, -map_append, -map_reverse, -map_take, -map_drop, -map_tail, -any_map, -all_map, -mapM_map, -map_map, slL, szI, ldI, zI, undL, apL, setI, rdI_get, Nat.add_one_le_iff, fillV, zeros1, zeros0, appendD, segV, lvO, goneOf, sliceD, bound, Nat.add_assoc, hi, k1, lA, rA, d1, w1, w2, w3, setCs1, setCs0]
      repeat refine ⟨by kernel_rfl, by kernel_rfl, ?_⟩
      refine next _ rfl ?_
      (refine canon_mk ?_; simp [method_specs_simp, ordIds_app, ordRen_app, ordIds_app2, ordRen_app2, -map_replicate, -map_set, -map_append, -map_reverse, -map_take, -map_drop, -map_tail, -map_map, sA])
    · have e : inpl n g.length (fun i => (rdI f i + k * rdI g i) % p) (rdI f) = addR p f g k := by unfold addR; rw [hn]
      have lR := addR_len p f g k
      have ht := run_l01Trim (addR p f g k) (by omega)
      rw [e]
      rw [lR, ← hn] at ht
      simp [go_sem, -map_replicate, -map_set, -map_append, -map_reverse, -map_take, -map_drop, -map_tail, -any_map, -all_map, -mapM_map, -map_map, slL, szI, ldI, zI, undL, apL, setI, rdI_get, Nat.add_one_le_iff, fillV, zeros1, zeros0, appendD, segV, lvO, goneOf, sliceD, bound, Nat.add_assoc, ht, lR, ← hn]
      simp [mvcgen_simp, -map_replicate, -map_set, -map_append, -map_reverse, -map_take, -map_drop, -map_tail, -any_map, -all_map, -mapM_map, -map_map, Try.f102, addP]
    · (refine canon_mk ?_; simp [method_specs_simp, ordIds_app, ordRen_app, ordIds_app2, ordRen_app2, -map_replicate, -map_set, -map_append, -map_reverse, -map_take, -map_drop, -map_tail, -map_map])
  · have e0 : List.replicate n (0 : Int) = inpl n 0 (rdI f) (fun _ => 0) := by rw [inpl_zero, tab_replicate]
    (refine canon_mk ?_; simp [method_specs_simp, ordIds_app, ordRen_app, ordIds_app2, ordRen_app2, -map_replicate, -map_set, -map_append, -map_reverse, -map_take, -map_drop, -map_tail, -map_map, e0])

/-! ### Products -/
def mulK (p : Int) (f g : List Int) (i : Nat) (A : List Int) : Nat → List Int
  | 0 => A
  | k + 1 => addAt p (mulK p f g i A k) (i + k) (rdI f i * rdI g k)
def mulI (p : Int) (f g : List Int) : Nat → List Int
  | 0 => List.replicate (f.length + g.length - 1) 0
  | i + 1 => mulK p f g i (mulI p f g i) g.length
def mulP (p : Int) (f g : List Int) : List Int := if f.length = 0 ∨ g.length = 0 then [] else trimL (mulI p f g f.length)
theorem mulK_len (p : Int) (f g : List Int) (i : Nat) (A : List Int) : ∀ k, (mulK p f g i A k).length = A.length
  | 0 => rfl
  | k + 1 => by rw [mulK, addAt_len, mulK_len p f g i A k]
theorem mulI_len (p : Int) (f g : List Int) : ∀ i, (mulI p f g i).length = f.length + g.length - 1
  | 0 => by simp [mulI]
  | i + 1 => by rw [mulI, mulK_len, mulI_len p f g i]
theorem mulK_fine {p : Int} (hp : 2 ≤ p ∧ p ≤ 10007) (f g : List Int) (i : Nat) {A : List Int} (h : fine p A) : ∀ k, fine p (mulK p f g i A k)
  | 0 => h
  | k + 1 => addAt_fine hp (mulK_fine hp f g i h k) _ _
theorem zeros_fine {p : Int} (hp : 2 ≤ p) (n : Nat) : fine p (List.replicate n 0) := fun j => by
  have : rdI (List.replicate n (0 : Int)) j = 0 := by
    simp [rdI, List.getD_eq_getElem?_getD, List.getElem?_replicate]; split <;> rfl
  rw [this]; omega
theorem mulI_fine {p : Int} (hp : 2 ≤ p ∧ p ≤ 10007) (f g : List Int) : ∀ i, fine p (mulI p f g i)
  | 0 => zeros_fine hp.1 _
  | i + 1 => mulK_fine hp f g i (mulI_fine hp f g i) _
theorem mulP_fine {p : Int} (hp : 2 ≤ p ∧ p ≤ 10007) (f g : List Int) : fine p (mulP p f g) := by
  unfold mulP; split
  · exact fine_nil hp.1
  · exact trimL_fine hp (mulI_fine hp f g _)
theorem mulP_le (p : Int) (f g : List Int) : (mulP p f g).length ≤ f.length + g.length - 1 := by
  unfold mulP; split
  · simp
  · have := trimL_le (mulI p f g f.length); rw [mulI_len] at this; exact this

theorem run_product (p : Int) (f g : List Int) (hp : 2 ≤ p ∧ p ≤ 10007) (hf : fine p f) (hg : fine p g) (hlf : f.length ≤ 1000) (hlg : g.length ≤ 1000) :
    runv E1 67 [.int .i64 p, (V.list (List.length (f)) (List.map (V.int .i64) (f))), (V.list (List.length (g)) (List.map (V.int .i64) (g)))] = some ⟨true, (V.uniq 1 (List.length (mulP p f g)) (List.map (V.int .i64) (mulP p f g))), [.undef, .undef, .undef]⟩ := by
  have cdk : codeOk Try.f67.ntmps (Try.f67.body.getD .skip) = true := by kernel_rfl
  refine run_of_WLr (fn := Try.f67) rfl Try.func67 rfl ⟨by simp [Try.ntmps67], by simp [wideA, ints], cdk, by simp [Try.f67]⟩ rfl (by simp [rebOk, noId, adoptT, adoptA, adoptL, adoptC, depth]) ?_
  by_cases z1 : f = []
  · have e : mulP p f g = [] := if_pos (.inl (by rw [z1]; rfl))
    subst z1
    simp [go_sem, -map_replicate, -map_set, -map_append, -map_reverse, -map_take, -map_drop, -map_tail, -any_map, -all_map, -mapM_map, -map_map, slL, szI, ldI, zI, undL, apL, setI, rdI_get, Nat.add_one_le_iff, fillV, zeros1, zeros0, appendD, segV, lvO, goneOf, sliceD, bound, Nat.add_assoc]
    simp [mvcgen_simp, -map_replicate, -map_set, -map_append, -map_reverse, -map_take, -map_drop, -map_tail, -any_map, -all_map, -mapM_map, -map_map, Try.f67, e]
  by_cases z2 : g = []
  · have e : mulP p f g = [] := if_pos (.inr (by rw [z2]; rfl))
    subst z2
    simp [go_sem, -map_replicate, -map_set, -map_append, -map_reverse, -map_take, -map_drop, -map_tail, -any_map, -all_map, -mapM_map, -map_map, slL, szI, ldI, zI, undL, apL, setI, rdI_get, Nat.add_one_le_iff, fillV, zeros1, zeros0, appendD, segV, lvO, goneOf, sliceD, bound, Nat.add_assoc, z1]
    simp [mvcgen_simp, -map_replicate, -map_set, -map_append, -map_reverse, -map_take, -map_drop, -map_tail, -any_map, -all_map, -mapM_map, -map_map, Try.f67, e]
  have y1 : 0 < f.length := List.length_pos_iff.2 z1
  have y2 : 0 < g.length := List.length_pos_iff.2 z2
  have e : mulP p f g = trimL (mulI p f g f.length) := if_neg (by omega)
  obtain ⟨n, hn⟩ : ∃ n, n = f.length + g.length - 1 := ⟨_, rfl⟩
  have w0 : IntKind.i64.wrap ((f.length : Int) + g.length) = (f.length : Int) + g.length := IntWalk.i64_in _ (by omega)
  have w1 : IntKind.i64.wrap ((f.length : Int) + g.length - 1) = (n : Int) := by rw [IntWalk.i64_in _ (by omega)]; omega
  have c1 : n * 8 ≤ 140737488355328 := by omega
  have c2 : (n : Int) ≤ 9223372036854775807 := by omega
  simp [go_sem, -map_replicate, -map_set, -map_append, -map_reverse, -map_take, -map_drop, -map_tail, -any_map, -all_map, -mapM_map, -map_map, slL, szI, ldI, zI, undL, apL, setI, rdI_get, Nat.add_one_le_iff, fillV, zeros1, zeros0, appendD, segV, lvO, goneOf, sliceD, bound, Nat.add_assoc, z1, z2, w0, w1, c1, c2, zerosI]
  rw [WL_loop]
  refine WL_for (keep := [0, 2, 7, 27, 28, 29]) (rs := resM Try.f67) rfl (by kernel_rfl) (fun i => mkSt [(0, .int .i64 p), (2, (V.list (List.length (g)) (List.map (V.int .i64) (g)))), (7, .sl 0 0 0 n), (27, (V.list (List.length (f)) (List.map (V.int .i64) (f)))), (28, .int .i64 (f.length : Int)), (29, .int .i64 (i : Int))] [some (⟨0, 2, 1, (mulI p f g i).map (V.int .i64)⟩)] (resM Try.f67)) f.length ?_ ?_ 0 _ (by omega) rfl ?_
  · intro i hi next
    have lI := mulI_len p f g i
    have fI := mulI_fine hp f g i
    have eI : mulI p f g (i + 1) = mulK p f g i (mulI p f g i) g.length := rfl
    have w3 : IntKind.i64.wrap ((i : Int) + 1) = (i : Int) + 1 := IntWalk.i64_in _ (by omega)
    generalize mulI p f g i = A0 at *
    simp [go_sem, -map_replicate, -map_set, -map_append, -map_reverse, -map_take, -map_drop, -map_tail, -any_map, -all_map, -mapM_map, -map_map, slL, szI, ldI, zI, undL, apL, setI, rdI_get, Nat.add_one_le_iff, fillV, zeros1, zeros0, appendD, segV, lvO, goneOf, sliceD, bound, Nat.add_assoc, hi]
    rw [WL_loop]
    refine WL_for (keep := [0, 2, 7, 8, 9, 27, 28, 29, 34, 35, 36]) (rs := resM Try.f67) rfl (by kernel_rfl) (fun k => mkSt [(0, .int .i64 p), (2, (V.list (List.length (g)) (List.map (V.int .i64) (g)))), (7, .sl 0 0 0 n), (8, .int .i64 (i : Int)), (9, .int .i64 (rdI f i)), (27, (V.list (List.length (f)) (List.map (V.int .i64) (f)))), (28, .int .i64 (f.length : Int)), (29, .int .i64 (i : Int)), (34, (V.list (List.length (g)) (List.map (V.int .i64) (g)))), (35, .int .i64 (g.length : Int)), (36, .int .i64 (k : Int))] [some (⟨0, 2, 1, (mulK p f g i A0 k).map (V.int .i64)⟩)] (resM Try.f67)) g.length ?_ ?_ 0 _ (by omega) rfl ?_
    · intro k hk next'
      have h1 := hf i
      have h2 := hg k
      have hm := mul_small hp h1 h2
      have lA := mulK_len p f g i A0 k
      have h3 := mulK_fine hp f g i fI k (i + k)
      have sA : (mulK p f g i A0 k).set (i + k) ((rdI (mulK p f g i A0 k) (i + k) + rdI f i * rdI g k) % p) = mulK p f g i A0 (k + 1) := rfl
      generalize mulK p f g i A0 k = A at *
      have d1 := up (run_mod p (rdI A (i + k) + rdI f i * rdI g k) hp)
      have v1 : IntKind.i64.wrap (rdI f i * rdI g k) = rdI f i * rdI g k := IntWalk.i64_in _ (by omega)
      have v2 : IntKind.i64.wrap (rdI A (i + k) + rdI f i * rdI g k) = rdI A (i + k) + rdI f i * rdI g k := IntWalk.i64_in _ (by omega)
      have v3 : IntKind.i64.wrap ((k : Int) + 1) = (k : Int) + 1 := IntWalk.i64_in _ (by omega)
      obtain ⟨m, em⟩ : ∃ m, m = i + k := ⟨_, rfl⟩
      have v4 : IntKind.i64.wrap ((i : Int) + k) = (m : Int) := by rw [IntWalk.i64_in _ (by omega)]; omega
      have k1 : m < n := by omega
      have lA' : A.length = n := by omega
      rw [← em] at d1 v2 sA
      simp [go_sem, -map_replicate, -map_set, -map_append, -map_reverse, -map_take, -map_drop, -map_tail, -any_map, -all_map, -mapM_map, -map_map, slL, szI, ldI, zI, undL, apL, setI, rdI_get, Nat.add_one_le_iff, fillV, zeros1, zeros0, appendD, segV, lvO, goneOf, sliceD, bound, Nat.add_assoc, hk, k1, lA', d1, v1, v2, v3, v4, setCs1, setCs0]
      repeat refine ⟨by kernel_rfl, by kernel_rfl, ?_⟩
      refine next' _ rfl ?_
      (refine canon_mk ?_; simp [method_specs_simp, ordIds_app, ordRen_app, ordIds_app2, ordRen_app2, -map_replicate, -map_set, -map_append, -map_reverse, -map_take, -map_drop, -map_tail, -map_map, sA])
    · simp [go_sem, -map_replicate, -map_set, -map_append, -map_reverse, -map_take, -map_drop, -map_tail, -any_map, -all_map, -mapM_map, -map_map, slL, szI, ldI, zI, undL, apL, setI, rdI_get, Nat.add_one_le_iff, fillV, zeros1, zeros0, appendD, segV, lvO, goneOf, sliceD, bound, Nat.add_assoc, w3]
      refine next _ rfl ?_
      (refine canon_mk ?_; simp [method_specs_simp, ordIds_app, ordRen_app, ordIds_app2, ordRen_app2, -map_replicate, -map_set, -map_append, -map_reverse, -map_take, -map_drop, -map_tail, -map_map, eI])
    · (refine canon_mk ?_; simp [method_specs_simp, ordIds_app, ordRen_app, ordIds_app2, ordRen_app2, -map_replicate, -map_set, -map_append, -map_reverse, -map_take, -map_drop, -map_tail, -map_map, mulK])
  · have lR := mulI_len p f g f.length
    have ht := up (run_trimmed (mulI p f g f.length) (by omega))
    rw [lR, ← hn] at ht
    simp [go_sem, -map_replicate, -map_set, -map_append, -map_reverse, -map_take, -map_drop, -map_tail, -any_map, -all_map, -mapM_map, -map_map, slL, szI, ldI, zI, undL, apL, setI, rdI_get, Nat.add_one_le_iff, fillV, zeros1, zeros0, appendD, segV, lvO, goneOf, sliceD, bound, Nat.add_assoc, ht, lR, ← hn]
    simp [mvcgen_simp, -map_replicate, -map_set, -map_append, -map_reverse, -map_take, -map_drop, -map_tail, -any_map, -all_map, -mapM_map, -map_map, Try.f67, e]
  · (refine canon_mk ?_; simp [method_specs_simp, ordIds_app, ordRen_app, ordIds_app2, ordRen_app2, -map_replicate, -map_set, -map_append, -map_reverse, -map_take, -map_drop, -map_tail, -map_map, mulI, ← hn])
theorem run_l01Times (p : Int) (f g : List Int) (hp : 2 ≤ p ∧ p ≤ 10007) (hf : fine p f) (hg : fine p g) (hlf : f.length ≤ 1000) (hlg : g.length ≤ 1000) :
    runv E1 126 [.int .i64 p, (V.list (List.length (f)) (List.map (V.int .i64) (f))), (V.list (List.length (g)) (List.map (V.int .i64) (g)))] = some ⟨true, (V.uniq 1 (List.length (mulP p f g)) (List.map (V.int .i64) (mulP p f g))), [.undef, .undef, .undef]⟩ := by
  have cdk : codeOk Try.f126.ntmps (Try.f126.body.getD .skip) = true := by kernel_rfl
  refine run_of_WLr (fn := Try.f126) rfl Try.func126 rfl ⟨by simp [Try.ntmps126], by simp [wideA, ints], cdk, by simp [Try.f126]⟩ rfl (by simp [rebOk, noId, adoptT, adoptA, adoptL, adoptC, depth]) ?_
  by_cases z1 : f = []
  · have e : mulP p f g = [] := if_pos (.inl (by rw [z1]; rfl))
    subst z1
    simp [go_sem, -map_replicate, -map_set, -map_append, -map_reverse, -map_take, -map_drop, -map_tail, -any_map, -all_map, -mapM_map, -map_map, slL, szI, ldI, zI, undL, apL, setI, rdI_get, Nat.add_one_le_iff, fillV, zeros1, zeros0, appendD, segV, lvO, goneOf, sliceD, bound, Nat.add_assoc]
    simp [mvcgen_simp, -map_replicate, -map_set, -map_append, -map_reverse, -map_take, -map_drop, -map_tail, -any_map, -all_map, -mapM_map, -map_map, Try.f126, e]
  by_cases z2 : g = []
  · have e : mulP p f g = [] := if_pos (.inr (by rw [z2]; rfl))
    subst z2
    simp [go_sem, -map_replicate, -map_set, -map_append, -map_reverse, -map_take, -map_drop, -map_tail, -any_map, -all_map, -mapM_map, -map_map, slL, szI, ldI, zI, undL, apL, setI, rdI_get, Nat.add_one_le_iff, fillV, zeros1, zeros0, appendD, segV, lvO, goneOf, sliceD, bound, Nat.add_assoc, z1]
    simp [mvcgen_simp, -map_replicate, -map_set, -map_append, -map_reverse, -map_take, -map_drop, -map_tail, -any_map, -all_map, -mapM_map, -map_map, Try.f126, e]
  have y1 : 0 < f.length := List.length_pos_iff.2 z1
  have y2 : 0 < g.length := List.length_pos_iff.2 z2
  have e : mulP p f g = trimL (mulI p f g f.length) := if_neg (by omega)
  obtain ⟨n, hn⟩ : ∃ n, n = f.length + g.length - 1 := ⟨_, rfl⟩
  have w0 : IntKind.i64.wrap ((f.length : Int) + g.length) = (f.length : Int) + g.length := IntWalk.i64_in _ (by omega)
  have w1 : IntKind.i64.wrap ((f.length : Int) + g.length - 1) = (n : Int) := by rw [IntWalk.i64_in _ (by omega)]; omega
  have c1 : n * 8 ≤ 140737488355328 := by omega
  have c2 : (n : Int) ≤ 9223372036854775807 := by omega
  simp [go_sem, -map_replicate, -map_set, -map_append, -map_reverse, -map_take, -map_drop, -map_tail, -any_map, -all_map, -mapM_map, -map_map, slL, szI, ldI, zI, undL, apL, setI, rdI_get, Nat.add_one_le_iff, fillV, zeros1, zeros0, appendD, segV, lvO, goneOf, sliceD, bound, Nat.add_assoc, z1, z2, w0, w1, c1, c2, zerosI]
  rw [WL_loop]
  refine WL_for (keep := [0, 1, 2, 7, 8]) (rs := resM Try.f126) rfl (by kernel_rfl) (fun i => mkSt [(0, .int .i64 p), (1, (V.list (List.length (f)) (List.map (V.int .i64) (f)))), (2, (V.list (List.length (g)) (List.map (V.int .i64) (g)))), (7, .sl 0 0 0 n), (8, .int .i64 (i : Int))] [some (⟨0, 2, 1, (mulI p f g i).map (V.int .i64)⟩)] (resM Try.f126)) f.length ?_ ?_ 0 _ (by omega) rfl ?_
  · intro i hi next
    have lI := mulI_len p f g i
    have fI := mulI_fine hp f g i
    have eI : mulI p f g (i + 1) = mulK p f g i (mulI p f g i) g.length := rfl
    have w3 : IntKind.i64.wrap ((i : Int) + 1) = (i : Int) + 1 := IntWalk.i64_in _ (by omega)
    generalize mulI p f g i = A0 at *
    simp [go_sem, -map_replicate, -map_set, -map_append, -map_reverse, -map_take, -map_drop, -map_tail, -any_map, -all_map, -mapM_map, -map_map, slL, szI, ldI, zI, undL, apL, setI, rdI_get, Nat.add_one_le_iff, fillV, zeros1, zeros0, appendD, segV, lvO, goneOf, sliceD, bound, Nat.add_assoc, hi]
    rw [WL_loop]
    refine WL_for (keep := [0, 1, 2, 7, 8, 9]) (rs := resM Try.f126) rfl (by kernel_rfl) (fun k => mkSt [(0, .int .i64 p), (1, (V.list (List.length (f)) (List.map (V.int .i64) (f)))), (2, (V.list (List.length (g)) (List.map (V.int .i64) (g)))), (7, .sl 0 0 0 n), (8, .int .i64 (i : Int)), (9, .int .i64 (k : Int))] [some (⟨0, 2, 1, (mulK p f g i A0 k).map (V.int .i64)⟩)] (resM Try.f126)) g.length ?_ ?_ 0 _ (by omega) rfl ?_
    · intro k hk next'
      have h1 := hf i
      have h2 := hg k
      have hm := mul_small hp h1 h2
      have lA := mulK_len p f g i A0 k
      have h3 := mulK_fine hp f g i fI k (i + k)
      have sA : (mulK p f g i A0 k).set (i + k) ((rdI (mulK p f g i A0 k) (i + k) + rdI f i * rdI g k) % p) = mulK p f g i A0 (k + 1) := rfl
      generalize mulK p f g i A0 k = A at *
      have d1 : (rdI A (i + k) + rdI f i * rdI g k).tmod p = (rdI A (i + k) + rdI f i * rdI g k) % p := Int.tmod_eq_emod_of_nonneg (by omega)
      have hpn : ¬ p = 0 := by omega
      have v1 : IntKind.i64.wrap (rdI f i * rdI g k) = rdI f i * rdI g k := IntWalk.i64_in _ (by omega)
      have v2 : IntKind.i64.wrap (rdI A (i + k) + rdI f i * rdI g k) = rdI A (i + k) + rdI f i * rdI g k := IntWalk.i64_in _ (by omega)
      have v3 : IntKind.i64.wrap ((k : Int) + 1) = (k : Int) + 1 := IntWalk.i64_in _ (by omega)
      obtain ⟨m, em⟩ : ∃ m, m = i + k := ⟨_, rfl⟩
      have v4 : IntKind.i64.wrap ((i : Int) + k) = (m : Int) := by rw [IntWalk.i64_in _ (by omega)]; omega
      have k1 : m < n := by omega
      have lA' : A.length = n := by omega
      rw [← em] at d1 v2 sA
      simp [go_sem, -map_replicate, -map_set, -map_append, -map_reverse, -map_take, -map_drop, -map_tail, -any_map, -all_map, -mapM_map, -map_map, slL, szI, ldI, zI, undL, apL, setI, rdI_get, Nat.add_one_le_iff, fillV, zeros1, zeros0, appendD, segV, lvO, goneOf, sliceD, bound, Nat.add_assoc, hi, hk, k1, lA', hpn, d1, v1, v2, v3, v4, setCs1, setCs0]
      repeat refine ⟨by kernel_rfl, by kernel_rfl, ?_⟩
      refine next' _ rfl ?_
      (refine canon_mk ?_; simp [method_specs_simp, ordIds_app, ordRen_app, ordIds_app2, ordRen_app2, -map_replicate, -map_set, -map_append, -map_reverse, -map_take, -map_drop, -map_tail, -map_map, sA])
    · simp [go_sem, -map_replicate, -map_set, -map_append, -map_reverse, -map_take, -map_drop, -map_tail, -any_map, -all_map, -mapM_map, -map_map, slL, szI, ldI, zI, undL, apL, setI, rdI_get, Nat.add_one_le_iff, fillV, zeros1, zeros0, appendD, segV, lvO, goneOf, sliceD, bound, Nat.add_assoc, w3]
      refine next _ rfl ?_
      (refine canon_mk ?_; simp [method_specs_simp, ordIds_app, ordRen_app, ordIds_app2, ordRen_app2, -map_replicate, -map_set, -map_append, -map_reverse, -map_take, -map_drop, -map_tail, -map_map, eI])
    · (refine canon_mk ?_; simp [method_specs_simp, ordIds_app, ordRen_app, ordIds_app2, ordRen_app2, -map_replicate, -map_set, -map_append, -map_reverse, -map_take, -map_drop, -map_tail, -map_map, mulK])
  · have lR := mulI_len p f g f.length
    have ht := run_l01Trim (mulI p f g f.length) (by omega)
    rw [lR, ← hn] at ht
    simp [go_sem, -map_replicate, -map_set, -map_append, -map_reverse, -map_take, -map_drop, -map_tail, -any_map, -all_map, -mapM_map, -map_map, slL, szI, ldI, zI, undL, apL, setI, rdI_get, Nat.add_one_le_iff, fillV, zeros1, zeros0, appendD, segV, lvO, goneOf, sliceD, bound, Nat.add_assoc, ht, lR, ← hn]
    simp [mvcgen_simp, -map_replicate, -map_set, -map_append, -map_reverse, -map_take, -map_drop, -map_tail, -any_map, -all_map, -mapM_map, -map_map, Try.f126, e]
  · (refine canon_mk ?_; simp [method_specs_simp, ordIds_app, ordRen_app, ordIds_app2, ordRen_app2, -map_replicate, -map_set, -map_append, -map_reverse, -map_take, -map_drop, -map_tail, -map_map, mulI, ← hn])
end Go.Proofs.Ytacfkfdnncgjcaa.Ev

set_option linter.unusedSimpArgs false
set_option linter.unusedVariables false
namespace Go.Proofs.Ytacfkfdnncgjcaa.Ev
open Go Go.Proofs
open List (map_replicate map_set map_append map_reverse map_take map_drop map_tail any_map all_map mapM_map map_map)
set_option maxRecDepth 4000
set_option maxHeartbeats 4000000

/-! ### The recurrence -/
def nextP (p al be : Int) (own before : List Int) : List Int := addP p (mulP p [(-al) % p, 1] own) before ((-be) % p)
theorem nextP_fine {p : Int} (hp : 2 ≤ p ∧ p ≤ 10007) (al be : Int) (own before : List Int) : fine p (nextP p al be own before) := addP_fine hp (mulP_fine hp _ _) _
theorem nextP_le (p al be : Int) (own before : List Int) : (nextP p al be own before).length ≤ max (own.length + 1) before.length := by
  have h1 := addP_le p (mulP p [(-al) % p, 1] own) before ((-be) % p)
  have h2 := mulP_le p [(-al) % p, 1] own
  simp only [List.length_cons, List.length_nil] at h2
  unfold nextP; omega
def pl (p : Int) (a b : List Int) : Nat → List Int × List Int
  | 0 => ([1], [])
  | k + 1 => (nextP p (rdI a k) (rdI b k) (pl p a b k).1 (pl p a b k).2, (pl p a b k).1)
theorem pl_le (p : Int) (a b : List Int) : ∀ k, (pl p a b k).1.length ≤ k + 1 ∧ (pl p a b k).2.length ≤ k
  | 0 => ⟨by simp [pl], by simp [pl]⟩
  | k + 1 => by
    have ih := pl_le p a b k
    have := nextP_le p (rdI a k) (rdI b k) (pl p a b k).1 (pl p a b k).2
    refine ⟨?_, ih.1⟩
    simp only [pl]; omega
theorem pl_fine {p : Int} (hp : 2 ≤ p ∧ p ≤ 10007) (a b : List Int) : ∀ k, fine p (pl p a b k).1 ∧ fine p (pl p a b k).2
  | 0 => ⟨fine_one hp.1 ⟨by omega, by omega⟩, fine_nil hp.1⟩
  | k + 1 => ⟨nextP_fine hp _ _ _ _, (pl_fine hp a b k).1⟩

theorem run_next (p al be : Int) (own before : List Int) (hp : 2 ≤ p ∧ p ≤ 10007) (ha : 0 ≤ al ∧ al < p) (hb : 0 ≤ be ∧ be < p) (ho : fine p own) (hf : fine p before) (hlo : own.length ≤ 900) (hlb : before.length ≤ 900) :
    runv E1 124 [.int .i64 p, .int .i64 al, .int .i64 be, (V.list (List.length (own)) (List.map (V.int .i64) (own))), (V.list (List.length (before)) (List.map (V.int .i64) (before)))] = some ⟨true, (V.uniq 1 (List.length (nextP p al be own before)) (List.map (V.int .i64) (nextP p al be own before))), [.undef, .undef, .undef, .undef, .undef]⟩ := by
  have cdk : codeOk Try.f124.ntmps (Try.f124.body.getD .skip) = true := by kernel_rfl
  refine run_of_WLr (fn := Try.f124) rfl Try.func124 rfl ⟨by simp [Try.ntmps124], by simp [wideA, ints], cdk, by simp [Try.f124]⟩ rfl (by simp [rebOk, noId, adoptT, adoptA, adoptL, adoptC, depth]) ?_
  have w1 : IntKind.i64.wrap (-al) = -al := IntWalk.i64_in _ (by omega)
  have w2 : IntKind.i64.wrap (-be) = -be := IntWalk.i64_in _ (by omega)
  have d1 := up (run_mod p (-al) hp)
  have d2 := up (run_mod p (-be) hp)
  have r1 := mod_small hp (-al)
  have r2 := mod_small hp (-be)
  have h1 := run_product p [(-al) % p, 1] own hp (fine_two hp.1 r1 (by omega)) ho (by simp) (by omega)
  have lm := mulP_le p [(-al) % p, 1] own
  simp only [List.length_cons, List.length_nil] at lm
  have h2 := run_add p ((-be) % p) (mulP p [(-al) % p, 1] own) before hp (mulP_fine hp _ _) hf r2 (by omega) (by omega)
  simp only [List.length_cons, List.length_nil, List.map_cons, List.map_nil] at h1
  rw [show addP p (mulP p [(-al) % p, 1] own) before ((-be) % p) = nextP p al be own before from rfl] at h2
  generalize mulP p [(-al) % p, 1] own = M at *
  simp [go_sem, -map_replicate, -map_set, -map_append, -map_reverse, -map_take, -map_drop, -map_tail, -any_map, -all_map, -mapM_map, -map_map, slL, szI, ldI, zI, undL, apL, setI, rdI_get, Nat.add_one_le_iff, fillV, zeros1, zeros0, appendD, segV, lvO, goneOf, sliceD, bound, Nat.add_assoc, w1, w2, d1, d2, h1, h2, zerosV2]
  simp [mvcgen_simp, -map_replicate, -map_set, -map_append, -map_reverse, -map_take, -map_drop, -map_tail, -any_map, -all_map, -mapM_map, -map_map, Try.f124]
theorem run_l03Step (p al be : Int) (own before : List Int) (hp : 2 ≤ p ∧ p ≤ 10007) (ha : 0 ≤ al ∧ al < p) (hb : 0 ≤ be ∧ be < p) (ho : fine p own) (hf : fine p before) (hlo : own.length ≤ 900) (hlb : before.length ≤ 900) :
    runv E1 141 [.int .i64 p, (V.list (List.length (own)) (List.map (V.int .i64) (own))), (V.list (List.length (before)) (List.map (V.int .i64) (before))), .int .i64 al, .int .i64 be] = some ⟨true, (V.uniq 1 (List.length (nextP p al be own before)) (List.map (V.int .i64) (nextP p al be own before))), [.undef, .undef, .undef, .undef, .undef]⟩ := by
  have cdk : codeOk Try.f141.ntmps (Try.f141.body.getD .skip) = true := by kernel_rfl
  refine run_of_WLr (fn := Try.f141) rfl Try.func141 rfl ⟨by simp [Try.ntmps141], by simp [wideA, ints], cdk, by simp [Try.f141]⟩ rfl (by simp [rebOk, noId, adoptT, adoptA, adoptL, adoptC, depth]) ?_
  have w1 : IntKind.i64.wrap (-al) = -al := IntWalk.i64_in _ (by omega)
  have w2 : IntKind.i64.wrap (-be) = -be := IntWalk.i64_in _ (by omega)
  have d1 := up (run_l01Mod p (-al) hp)
  have d2 := up (run_l01Mod p (-be) hp)
  have r1 := mod_small hp (-al)
  have r2 := mod_small hp (-be)
  have h1 := run_l01Times p [(-al) % p, 1] own hp (fine_two hp.1 r1 (by omega)) ho (by simp) (by omega)
  have lm := mulP_le p [(-al) % p, 1] own
  simp only [List.length_cons, List.length_nil] at lm
  have h2 := run_l01Add p ((-be) % p) (mulP p [(-al) % p, 1] own) before hp (mulP_fine hp _ _) hf r2 (by omega) (by omega)
  simp only [List.length_cons, List.length_nil, List.map_cons, List.map_nil] at h1
  rw [show addP p (mulP p [(-al) % p, 1] own) before ((-be) % p) = nextP p al be own before from rfl] at h2
  generalize mulP p [(-al) % p, 1] own = M at *
  simp [go_sem, -map_replicate, -map_set, -map_append, -map_reverse, -map_take, -map_drop, -map_tail, -any_map, -all_map, -mapM_map, -map_map, slL, szI, ldI, zI, undL, apL, setI, rdI_get, Nat.add_one_le_iff, fillV, zeros1, zeros0, appendD, segV, lvO, goneOf, sliceD, bound, Nat.add_assoc, w1, w2, d1, d2, h1, h2, zerosV2]
  simp [mvcgen_simp, -map_replicate, -map_set, -map_append, -map_reverse, -map_take, -map_drop, -map_tail, -any_map, -all_map, -mapM_map, -map_map, Try.f141]

theorem run_l03Poly (p : Int) (a b : List Int) (n : Nat) (h : jacB p a b = true) (hn : n ≤ a.length) :
    runv E1 105 [(V.agg [V.int .i64 (p), (V.list (List.length (a)) (List.map (V.int .i64) (a))), (V.list (List.length (b)) (List.map (V.int .i64) (b)))]), .int .i64 (n : Int)] = some ⟨true, (V.uniq 1 (List.length ((pl p a b n).1)) (List.map (V.int .i64) ((pl p a b n).1))), [.agg [.undef, .undef, .undef], .undef]⟩ := by
  have cdk : codeOk Try.f105.ntmps (Try.f105.body.getD .skip) = true := by kernel_rfl
  refine run_of_WLr (fn := Try.f105) rfl Try.func105 rfl ⟨by simp [Try.ntmps105], by simp [wideA, ints], cdk, by simp [Try.f105]⟩ rfl (by simp [rebOk, noId, adoptT, adoptA, adoptL, adoptC, depth]) ?_
  have hp := jacB_prime h
  have hl := jacB_len h
  simp [go_sem, -map_replicate, -map_set, -map_append, -map_reverse, -map_take, -map_drop, -map_tail, -any_map, -all_map, -mapM_map, -map_map, slL, szI, ldI, zI, undL, apL, setI, rdI_get, Nat.add_one_le_iff, fillV, zeros1, zeros0, appendD, segV, lvO, goneOf, sliceD, bound, Nat.add_assoc, szL, ldL, setCs0, setCs1, setCs2, setCsA2, setCsA3, ldM, fM0, fM1, szM, zM, plM0, plM1, agM, paM, ldJ, fJ0, fJ1, fJ2, szJ, zJ, plJ0, plJ1, plJ2, agJ, paJ]
  rw [WL_loop]
  refine WL_for (keep := [1, 2, 5, 6, 7]) (rs := resM Try.f105) rfl (by kernel_rfl) (fun x => match x with | 0 => mkSt [(1, .int .i64 (n : Int)), (2, .ptr 0 0 0), (5, .nils), (6, .sl 1 0 0 1), (7, .int .i64 0)] [some (⟨0, 1, 1, [.int .i64 p, (V.list (List.length (a)) (List.map (V.int .i64) (a))), (V.list (List.length (b)) (List.map (V.int .i64) (b)))]⟩), some (⟨0, 2, 1, [.int .i64 1]⟩)] (resM Try.f105) | k + 1 => mkSt [(1, .int .i64 (n : Int)), (2, .ptr 0 0 0), (5, .sl 1 0 0 (pl p a b k).1.length), (6, .sl 2 0 0 (pl p a b (k + 1)).1.length), (7, .int .i64 ((k : Int) + 1))] [some (⟨0, 1, 1, [.int .i64 p, (V.list (List.length (a)) (List.map (V.int .i64) (a))), (V.list (List.length (b)) (List.map (V.int .i64) (b)))]⟩), some (row (pl p a b k).1), some (row (pl p a b (k + 1)).1)] (resM Try.f105)) n ?_ ?_ 0 _ (by omega) rfl ?_
  · intro k hk next
    have ra := jacB_a h (show k < a.length by omega)
    have rb := jacB_b h (show k < a.length by omega)
    have f1 := pl_fine hp a b k
    have l1 := pl_le p a b k
    have h1 := run_l03Step p (rdI a k) (rdI b k) (pl p a b k).1 (pl p a b k).2 hp ra (by omega) f1.1 f1.2 (by omega) (by omega)
    rw [show nextP p (rdI a k) (rdI b k) (pl p a b k).1 (pl p a b k).2 = (pl p a b (k + 1)).1 from rfl] at h1
    have w3 : IntKind.i64.wrap ((k : Int) + 1) = (k : Int) + 1 := IntWalk.i64_in _ (by omega)
    have ka : k < a.length := by omega
    have kb : k < b.length := by omega
    have kai : (k : Int) < a.length := by omega
    have kbi : (k : Int) < b.length := by omega
    have kn : (k : Int) < n := by omega
    have kp : (0 : Int) ≤ k := by omega
    rcases k with _ | k
    · dsimp only at next ⊢
      simp only [Nat.zero_add, Int.zero_add, Int.cast_ofNat_Int] at *
      simp only [show (pl p a b 0).1 = [1] from rfl, show (pl p a b 0).2 = [] from rfl, List.length_cons, List.length_nil, List.map_cons, List.map_nil] at h1
      simp [go_sem, -map_replicate, -map_set, -map_append, -map_reverse, -map_take, -map_drop, -map_tail, -any_map, -all_map, -mapM_map, -map_map, slL, szI, ldI, zI, undL, apL, setI, rdI_get, Nat.add_one_le_iff, fillV, zeros1, zeros0, appendD, segV, lvO, goneOf, sliceD, bound, Nat.add_assoc, szL, ldL, setCs0, setCs1, setCs2, setCsA2, setCsA3, ldM, fM0, fM1, szM, zM, plM0, plM1, agM, paM, ldJ, fJ0, fJ1, fJ2, szJ, zJ, plJ0, plJ1, plJ2, agJ, paJ, hk, ka, kb, kai, kbi, kn, kp, w3, h1]
      repeat refine ⟨by kernel_rfl, by kernel_rfl, ?_⟩
      refine next _ rfl ?_
      (refine canon_mk ?_; simp [method_specs_simp, ordIds_app, ordRen_app, ordIds_app2, ordRen_app2, -map_replicate, -map_set, -map_append, -map_reverse, -map_take, -map_drop, -map_tail, -map_map, row, pl])
    · dsimp only [row] at next ⊢
      simp only [Int.natCast_add, Int.cast_ofNat_Int, Nat.add_assoc, Nat.reduceAdd] at *
      rw [show (pl p a b (k + 1)).2 = (pl p a b k).1 from rfl] at h1
      simp [go_sem, -map_replicate, -map_set, -map_append, -map_reverse, -map_take, -map_drop, -map_tail, -any_map, -all_map, -mapM_map, -map_map, slL, szI, ldI, zI, undL, apL, setI, rdI_get, Nat.add_one_le_iff, fillV, zeros1, zeros0, appendD, segV, lvO, goneOf, sliceD, bound, Nat.add_assoc, szL, ldL, setCs0, setCs1, setCs2, setCsA2, setCsA3, ldM, fM0, fM1, szM, zM, plM0, plM1, agM, paM, ldJ, fJ0, fJ1, fJ2, szJ, zJ, plJ0, plJ1, plJ2, agJ, paJ, hk, ka, kb, kai, kbi, kn, kp, w3, h1]
      repeat refine ⟨by kernel_rfl, by kernel_rfl, ?_⟩
      refine next _ rfl ?_
      (refine canon_mk ?_; simp [method_specs_simp, ordIds_app, ordRen_app, ordIds_app2, ordRen_app2, -map_replicate, -map_set, -map_append, -map_reverse, -map_take, -map_drop, -map_tail, -map_map, row])
  · rcases n with _ | n
    · dsimp only
      simp [go_sem, -map_replicate, -map_set, -map_append, -map_reverse, -map_take, -map_drop, -map_tail, -any_map, -all_map, -mapM_map, -map_map, slL, szI, ldI, zI, undL, apL, setI, rdI_get, Nat.add_one_le_iff, fillV, zeros1, zeros0, appendD, segV, lvO, goneOf, sliceD, bound, Nat.add_assoc, szL, ldL, setCs0, setCs1, setCs2, setCsA2, setCsA3, ldM, fM0, fM1, szM, zM, plM0, plM1, agM, paM, ldJ, fJ0, fJ1, fJ2, szJ, zJ, plJ0, plJ1, plJ2, agJ, paJ]
      simp [mvcgen_simp, -map_replicate, -map_set, -map_append, -map_reverse, -map_take, -map_drop, -map_tail, -any_map, -all_map, -mapM_map, -map_map, Try.f105, pl]
    · dsimp only [row]
      simp [go_sem, -map_replicate, -map_set, -map_append, -map_reverse, -map_take, -map_drop, -map_tail, -any_map, -all_map, -mapM_map, -map_map, slL, szI, ldI, zI, undL, apL, setI, rdI_get, Nat.add_one_le_iff, fillV, zeros1, zeros0, appendD, segV, lvO, goneOf, sliceD, bound, Nat.add_assoc, szL, ldL, setCs0, setCs1, setCs2, setCsA2, setCsA3, ldM, fM0, fM1, szM, zM, plM0, plM1, agM, paM, ldJ, fJ0, fJ1, fJ2, szJ, zJ, plJ0, plJ1, plJ2, agJ, paJ]
      simp [mvcgen_simp, -map_replicate, -map_set, -map_append, -map_reverse, -map_take, -map_drop, -map_tail, -any_map, -all_map, -mapM_map, -map_map, Try.f105]
  · (refine canon_mk ?_; simp [method_specs_simp, ordIds_app, ordRen_app, ordIds_app2, ordRen_app2, -map_replicate, -map_set, -map_append, -map_reverse, -map_take, -map_drop, -map_tail, -map_map])
end Go.Proofs.Ytacfkfdnncgjcaa.Ev
