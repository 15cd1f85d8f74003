/- Polynomials as lists: sums, products, trimming, by both texts. Conditions: none. -/
import Derived.Test.YtabnganndcmcnaaFnBA
set_option linter.unusedSimpArgs false
set_option linter.unusedVariables false
namespace Go.Proofs.Ytabnganndcmcnaa.Ev
open Go Go.Proofs
open List (map_replicate map_set map_append map_reverse map_take map_drop map_tail any_map all_map mapM_map map_map)
set_option maxRecDepth 4000
set_option maxHeartbeats 4000000

/-! ### Noughts at the end -/
def tln (f : List Int) : Nat → Nat
  | 0 => 0
  | n + 1 => if rdI f n = 0 then tln f n else n + 1
theorem tln_le (f : List Int) : ∀ n, tln f n ≤ n
  | 0 => Nat.le_refl _
  | n + 1 => by
    unfold tln
    split
    · exact Nat.le_succ_of_le (tln_le f n)
    · exact Nat.le_refl _
def trimL (f : List Int) : List Int := f.take (tln f f.length)
theorem trimL_len (f : List Int) : (trimL f).length = tln f f.length := by
  unfold trimL
  rw [List.length_take, Nat.min_eq_left (tln_le f f.length)]
theorem trimL_le (f : List Int) : (trimL f).length ≤ f.length := by rw [trimL_len]; exact tln_le f f.length
theorem rdI_take {f : List Int} {n i : Nat} (h : i < n) : rdI (f.take n) i = rdI f i := by
  simp [rdI, List.getElem?_take, h]
theorem rdI_out {f : List Int} {i : Nat} (h : f.length ≤ i) : rdI f i = 0 := by simp [rdI, h]
theorem trimL_fine {p : Int} (hp : 2 ≤ p ∧ p ≤ 10007) {f : List Int} (h : fine p f) : fine p (trimL f) := by
  intro i
  by_cases hi : i < (trimL f).length
  · have : rdI (trimL f) i = rdI f i := rdI_take (by rw [trimL_len] at hi; exact hi)
    rw [this]; exact h i
  · rw [rdI_out (by omega)]; omega
theorem trimL_top {f : List Int} (h : 0 < f.length) (ht : ¬ rdI f (f.length - 1) = 0) : trimL f = f := by
  unfold trimL
  obtain ⟨n, hn⟩ : ∃ n, f.length = n + 1 := ⟨f.length - 1, by omega⟩
  rw [hn] at ht ⊢
  simp only [Nat.add_sub_cancel] at ht
  rw [tln, if_neg ht, ← hn, List.take_length]
theorem trimL_zero {f : List Int} {n : Nat} (hn : f.length = n + 1) (ht : rdI f n = 0) : (trimL f).length ≤ n := by
  rw [trimL_len, hn, tln, if_pos ht]; exact tln_le f n
theorem fine_all {p : Int} {l : List Int} (h : l.all (hasB p) = true) (hp : 2 ≤ p) : fine p l := fun i => by
  by_cases hi : i < l.length
  · exact hasB_all h hi
  · rw [rdI_out (by omega)]; omega
theorem fine_nil {p : Int} (hp : 2 ≤ p) : fine p [] := fun i => by rw [rdI_out (by simp)]; omega
theorem fine_one {p : Int} (hp : 2 ≤ p) {x : Int} (hx : 0 ≤ x ∧ x < p) : fine p [x] := fun i => by
  rcases i with _ | i
  · exact hx
  · rw [rdI_out (by simp)]; omega
theorem fine_two {p : Int} (hp : 2 ≤ p) {x y : Int} (hx : 0 ≤ x ∧ x < p) (hy : 0 ≤ y ∧ y < p) : fine p [x, y] := fun i => by
  rcases i with _ | _ | i
  · exact hx
  · exact hy
  · rw [rdI_out (by simp)]; omega

theorem run_trimmed (f : List Int) (hl : f.length ≤ 1048576) :
    runv E0 200 [(V.uniq 1 (List.length (f)) (List.map (V.int .i64) (f)))] = some ⟨true, (V.uniq 1 (List.length (trimL f)) (List.map (V.int .i64) (trimL f))), [.undef]⟩ := by
  have cdk : codeOk Try.f200.ntmps (Try.f200.body.getD .skip) = true := by kernel_rfl
  refine run_of_WL (fn := Try.f200) rfl Try.func200 rfl ⟨by simp [Try.ntmps200], by simp [wideA, ints], cdk, by simp [Try.f200]⟩ ?_
  simp [go_sem, -map_replicate, -map_set, -map_append, -map_reverse, -map_take, -map_drop, -map_tail, -any_map, -all_map, -mapM_map, -map_map, slL, szI, ldI, zI, undL, apL, setI, rdI_get, Nat.add_one_le_iff, fillV, zeros1, zeros0, appendD, segV, lvO, goneOf, sliceD, bound, Nat.add_assoc]
  rw [WL_loop]
  refine WL_rounds (I := fun j st => st.fr 0 = .sl 0 0 0 j ∧ st.H 0 = some (row f) ∧ tln f j = tln f f.length ∧ j ≤ f.length) ?_ f.length _ ?_
  · rintro j st ⟨he0, he1, he2, he3⟩ next
    unfold row at he1
    rcases j with _ | j
    · have e : trimL f = [] := by unfold trimL; rw [← he2]; rfl
      simp [go_sem, -map_replicate, -map_set, -map_append, -map_reverse, -map_take, -map_drop, -map_tail, -any_map, -all_map, -mapM_map, -map_map, slL, szI, ldI, zI, undL, apL, setI, rdI_get, Nat.add_one_le_iff, fillV, zeros1, zeros0, appendD, segV, lvO, goneOf, sliceD, bound, Nat.add_assoc, he0, he1]
      simp [mvcgen_simp, -map_replicate, -map_set, -map_append, -map_reverse, -map_take, -map_drop, -map_tail, -any_map, -all_map, -mapM_map, -map_map, Try.f200, he0, he1, e]
    · have w : IntKind.i64.wrap (j : Int) = (j : Int) := IntWalk.i64_in _ (by omega)
      have b1 : j < f.length := by omega
      have b2 : (j : Int) < (j : Int) + 1 := by omega
      have b3 : (j : Int) + 1 - 1 = j := by omega
      have b4 : (0 : Int) < (j : Int) + 1 := by omega
      by_cases h : rdI f j = 0
      · simp [go_sem, -map_replicate, -map_set, -map_append, -map_reverse, -map_take, -map_drop, -map_tail, -any_map, -all_map, -mapM_map, -map_map, slL, szI, ldI, zI, undL, apL, setI, rdI_get, Nat.add_one_le_iff, fillV, zeros1, zeros0, appendD, segV, lvO, goneOf, sliceD, bound, Nat.add_assoc, he0, he1, w, b1, b2, b3, b4, h]
        refine next j _ (by omega) ?_
        rw [tln, if_pos h] at he2
        simp [upd, he0, he1, row, he2]
        omega
      · have e : trimL f = f.take (j + 1) := by unfold trimL; rw [← he2, tln, if_neg h]
        have el : (f.take (j + 1)).length = j + 1 := by simp; omega
        simp [go_sem, -map_replicate, -map_set, -map_append, -map_reverse, -map_take, -map_drop, -map_tail, -any_map, -all_map, -mapM_map, -map_map, slL, szI, ldI, zI, undL, apL, setI, rdI_get, Nat.add_one_le_iff, fillV, zeros1, zeros0, appendD, segV, lvO, goneOf, sliceD, bound, Nat.add_assoc, he0, he1, w, b1, b2, b3, b4, h]
        have b7 : j + 1 ≤ f.length := b1
        simp [mvcgen_simp, -map_replicate, -map_set, -map_append, -map_reverse, -map_take, -map_drop, -map_tail, -any_map, -all_map, -mapM_map, -map_map, Try.f200, he0, he1, e, el, b7, ← List.map_take]
  · refine ⟨rfl, rfl, rfl, Nat.le_refl _⟩
theorem run_trimmedL (f : List Int) (hl : f.length ≤ 1048576) :
    runv E0 200 [(V.list (List.length (f)) (List.map (V.int .i64) (f)))] = some ⟨false, (V.list (List.length (trimL f)) (List.map (V.int .i64) (trimL f))), [.undef]⟩ := by
  have cdk : codeOk Try.f200.ntmps (Try.f200.body.getD .skip) = true := by kernel_rfl
  refine run_of_WL (fn := Try.f200) rfl Try.func200 rfl ⟨by simp [Try.ntmps200], by simp [wideA, ints], cdk, by simp [Try.f200]⟩ ?_
  simp [go_sem, -map_replicate, -map_set, -map_append, -map_reverse, -map_take, -map_drop, -map_tail, -any_map, -all_map, -mapM_map, -map_map, slL, szI, ldI, zI, undL, apL, setI, rdI_get, Nat.add_one_le_iff, fillV, zeros1, zeros0, appendD, segV, lvO, goneOf, sliceD, bound, Nat.add_assoc]
  rw [WL_loop]
  refine WL_rounds (I := fun j st => st.fr 0 = .list j ((f.take j).map (V.int .i64)) ∧ tln f j = tln f f.length ∧ j ≤ f.length) ?_ f.length _ ?_
  · rintro j st ⟨he0, he1, he2⟩ next
    rcases j with _ | j
    · have e : trimL f = [] := by unfold trimL; rw [← he1]; rfl
      simp [go_sem, -map_replicate, -map_set, -map_append, -map_reverse, -map_take, -map_drop, -map_tail, -any_map, -all_map, -mapM_map, -map_map, slL, szI, ldI, zI, undL, apL, setI, rdI_get, Nat.add_one_le_iff, fillV, zeros1, zeros0, appendD, segV, lvO, goneOf, sliceD, bound, Nat.add_assoc, he0]
      simp [mvcgen_simp, -map_replicate, -map_set, -map_append, -map_reverse, -map_take, -map_drop, -map_tail, -any_map, -all_map, -mapM_map, -map_map, Try.f200, he0, e, isLR]
    · have w : IntKind.i64.wrap (j : Int) = (j : Int) := IntWalk.i64_in _ (by omega)
      have b1 : j < f.length := by omega
      have b2 : (j : Int) < (j : Int) + 1 := by omega
      have b3 : (j : Int) + 1 - 1 = j := by omega
      have b4 : (0 : Int) < (j : Int) + 1 := by omega
      have b5 : rdI (f.take (j + 1)) j = rdI f j := rdI_take (by omega)
      have el : (f.take (j + 1)).length = j + 1 := by simp; omega
      have et : ((f.take (j + 1)).map (V.int .i64)).take j = (f.take j).map (V.int .i64) := by
        rw [← List.map_take, List.take_take, Nat.min_eq_left (by omega)]
      have b6 : j < (f.take (j + 1)).length := by omega
      generalize hF : f.take (j + 1) = F at *
      by_cases h : rdI f j = 0
      · simp [go_sem, -map_replicate, -map_set, -map_append, -map_reverse, -map_take, -map_drop, -map_tail, -any_map, -all_map, -mapM_map, -map_map, slL, szI, ldI, zI, undL, apL, setI, rdI_get, Nat.add_one_le_iff, fillV, zeros1, zeros0, appendD, segV, lvO, goneOf, sliceD, bound, Nat.add_assoc, he0, w, b1, b2, b3, b4, b5, b6, el, et, h]
        refine next j _ (by omega) ?_
        rw [tln, if_pos h] at he1
        simp [upd, he0, he1, et]
        omega
      · have e : trimL f = F := by unfold trimL; rw [← he1, tln, if_neg h, hF]
        simp [go_sem, -map_replicate, -map_set, -map_append, -map_reverse, -map_take, -map_drop, -map_tail, -any_map, -all_map, -mapM_map, -map_map, slL, szI, ldI, zI, undL, apL, setI, rdI_get, Nat.add_one_le_iff, fillV, zeros1, zeros0, appendD, segV, lvO, goneOf, sliceD, bound, Nat.add_assoc, he0, w, b1, b2, b3, b4, b5, b6, el, et, h]
        simp [mvcgen_simp, -map_replicate, -map_set, -map_append, -map_reverse, -map_take, -map_drop, -map_tail, -any_map, -all_map, -mapM_map, -map_map, Try.f200, he0, e, el, isLR]
  · refine ⟨by simp [upd], rfl, Nat.le_refl _⟩
theorem run_l01Trim (f : List Int) (hl : f.length ≤ 1048576) :
    runv E1 239 [(V.list (List.length (f)) (List.map (V.int .i64) (f)))] = some ⟨true, (V.uniq 1 (List.length (trimL f)) (List.map (V.int .i64) (trimL f))), [.undef]⟩ := by
  have cdk : codeOk Try.f239.ntmps (Try.f239.body.getD .skip) = true := by kernel_rfl
  refine run_of_WLr (fn := Try.f239) rfl Try.func239 rfl ⟨by simp [Try.ntmps239], by simp [wideA, ints], cdk, by simp [Try.f239]⟩ rfl (by simp [rebOk, noId, adoptT, adoptA, adoptL, adoptC, depth]) ?_
  simp [go_sem, -map_replicate, -map_set, -map_append, -map_reverse, -map_take, -map_drop, -map_tail, -any_map, -all_map, -mapM_map, -map_map, slL, szI, ldI, zI, undL, apL, setI, rdI_get, Nat.add_one_le_iff, fillV, zeros1, zeros0, appendD, segV, lvO, goneOf, sliceD, bound, Nat.add_assoc]
  rw [WL_loop]
  refine WL_forX (keep := [0, 3]) (rs := resM Try.f239) rfl (by kernel_rfl) (fun j : Nat => mkSt [(0, (V.list (List.length (f)) (List.map (V.int .i64) (f)))), (3, .int .i64 (j : Int))] [] (resM Try.f239)) (fun j => tln f j = tln f f.length ∧ j ≤ f.length) (fun j => j) ?_ f.length _ ?_ rfl ?_
  · rintro j ⟨he, hj⟩ next
    have ow := up (run_l01Own (trimL f) (Nat.le_trans (trimL_le f) hl))
    rw [trimL_len] at ow
    have etk : trimL f = f.take (tln f f.length) := rfl
    rcases j with _ | j
    · rw [← he] at etk ow
      rw [etk] at ow ⊢
      simp only [tln, List.take_zero, Int.cast_ofNat_Int, List.length_nil, List.map_nil] at ow ⊢
      simp [go_sem, -map_replicate, -map_set, -map_append, -map_reverse, -map_take, -map_drop, -map_tail, -any_map, -all_map, -mapM_map, -map_map, slL, szI, ldI, zI, undL, apL, setI, rdI_get, Nat.add_one_le_iff, fillV, zeros1, zeros0, appendD, segV, lvO, goneOf, sliceD, bound, Nat.add_assoc, ow]
      simp [mvcgen_simp, -map_replicate, -map_set, -map_append, -map_reverse, -map_take, -map_drop, -map_tail, -any_map, -all_map, -mapM_map, -map_map, Try.f239]
    · have w : IntKind.i64.wrap (j : Int) = (j : Int) := IntWalk.i64_in _ (by omega)
      have b1 : j < f.length := by omega
      have b4 : (0 : Int) < (j : Int) + 1 := by omega
      have b5 : (j : Int) < f.length := by omega
      have b6 : j + 1 ≤ f.length := by omega
      have b7 : (0 : Int) ≤ (j : Int) + 1 := by omega
      by_cases h : rdI f j = 0
      · simp [go_sem, -map_replicate, -map_set, -map_append, -map_reverse, -map_take, -map_drop, -map_tail, -any_map, -all_map, -mapM_map, -map_map, slL, szI, ldI, zI, undL, apL, setI, rdI_get, Nat.add_one_le_iff, fillV, zeros1, zeros0, appendD, segV, lvO, goneOf, sliceD, bound, Nat.add_assoc, w, b1, b4, b5, h]
        refine next j _ ⟨?_, by omega⟩ (by omega) rfl ?_
        · rw [← he, tln, if_pos h]
        · (refine canon_mk ?_; simp [method_specs_simp, ordIds_app, ordRen_app, ordIds_app2, ordRen_app2, -map_replicate, -map_set, -map_append, -map_reverse, -map_take, -map_drop, -map_tail, -map_map])
      · have et : tln f f.length = j + 1 := by rw [← he, tln, if_neg h]
        rw [et] at etk ow
        rw [etk] at ow ⊢
        have el : (f.take (j + 1)).length = j + 1 := by simp; omega
        have em : List.take (j + 1) (List.map (V.int .i64) f) = List.map (V.int .i64) (f.take (j + 1)) := by rw [List.map_take]
        generalize f.take (j + 1) = F at *
        simp [go_sem, -map_replicate, -map_set, -map_append, -map_reverse, -map_take, -map_drop, -map_tail, -any_map, -all_map, -mapM_map, -map_map, slL, szI, ldI, zI, undL, apL, setI, rdI_get, Nat.add_one_le_iff, fillV, zeros1, zeros0, appendD, segV, lvO, goneOf, sliceD, bound, Nat.add_assoc, w, b1, b4, b5, b6, b7, h, ow, em]
        simp [mvcgen_simp, -map_replicate, -map_set, -map_append, -map_reverse, -map_take, -map_drop, -map_tail, -any_map, -all_map, -mapM_map, -map_map, Try.f239, el]
  · exact ⟨rfl, Nat.le_refl _⟩
  · (refine canon_mk ?_; simp [method_specs_simp, ordIds_app, ordRen_app, ordIds_app2, ordRen_app2, -map_replicate, -map_set, -map_append, -map_reverse, -map_take, -map_drop, -map_tail, -map_map])
end Go.Proofs.Ytabnganndcmcnaa.Ev
