/- Sums of polynomials, by both texts. Conditions: none. -/
import Derived.Test.YtabnganndcmcnaaFnBB
set_option linter.unusedSimpArgs false
set_option linter.unusedVariables false
namespace Go.Proofs.Ytabnganndcmcnaa.Ev
open Go Go.Proofs
open List (map_replicate map_set map_append map_reverse map_take map_drop map_tail any_map all_map mapM_map map_map)
set_option maxRecDepth 4000
set_option maxHeartbeats 4000000

def addR (p : Int) (f g : List Int) (k : Int) : List Int := inpl (max f.length g.length) g.length (fun i => (rdI f i + k * rdI g i) % p) (rdI f)
def addP (p : Int) (f g : List Int) (k : Int) : List Int := trimL (addR p f g k)
theorem addR_len (p : Int) (f g : List Int) (k : Int) : (addR p f g k).length = max f.length g.length := inpl_len _ _ _ _
theorem addP_le (p : Int) (f g : List Int) (k : Int) : (addP p f g k).length ≤ max f.length g.length := by
  have := trimL_le (addR p f g k); rw [addR_len] at this; exact this
theorem inpl_at {n i j : Nat} {f g : Nat → Int} (h : j < n) : rdI (inpl n i f g) j = if j < i then f j else g j := by unfold inpl; rw [tab_rd h]
theorem addR_fine {p : Int} (hp : 2 ≤ p ∧ p ≤ 10007) {f g : List Int} (hf : fine p f) (k : Int) : fine p (addR p f g k) := by
  intro j
  by_cases hj : j < max f.length g.length
  · unfold addR; rw [inpl_at hj]
    split
    · exact mod_small hp _
    · exact hf j
  · rw [rdI_out (by rw [addR_len]; omega)]; omega
theorem addP_fine {p : Int} (hp : 2 ≤ p ∧ p ≤ 10007) {f g : List Int} (hf : fine p f) (k : Int) : fine p (addP p f g k) := trimL_fine hp (addR_fine hp hf k)
theorem setCs_zeros {n : Nat} {f : List Int} (h : f.length ≤ n) (F : Nat → Int) : setCs (List.map (V.int .i64) (List.replicate n 0)) 0 (List.map (V.int .i64) f) = List.map (V.int .i64) (inpl n 0 F (rdI f)) := by
  unfold setCs
  rw [List.take_zero, List.nil_append, Nat.zero_add, List.length_map, ← List.map_drop, ← List.map_append]
  congr 1
  rw [inpl_zero]
  apply eq_tab (by simp; omega)
  intro i hi
  simp only [rdI, List.getD_eq_getElem?_getD, List.getElem?_append]
  by_cases hf : i < f.length
  · simp [hf]
  · simp [hf]
    rw [List.getElem?_replicate]
    split <;> rfl

theorem run_add (p k : Int) (f g : List Int) (hp : 2 ≤ p ∧ p ≤ 10007) (hf : fine p f) (hg : fine p g) (hk : 0 ≤ k ∧ k < p) (hlf : f.length ≤ 1000) (hlg : g.length ≤ 1000) :
    runv E1 251 [.int .i64 p, (V.list (List.length (f)) (List.map (V.int .i64) (f))), (V.list (List.length (g)) (List.map (V.int .i64) (g))), .int .i64 k] = some ⟨true, (V.uniq 1 (List.length (addP p f g k)) (List.map (V.int .i64) (addP p f g k))), [.undef, .undef, .undef, .undef]⟩ := by
  have cdk : codeOk Try.f251.ntmps (Try.f251.body.getD .skip) = true := by kernel_rfl
  refine run_of_WLr (fn := Try.f251) rfl Try.func251 rfl ⟨by simp [Try.ntmps251], by simp [wideA, ints], cdk, by simp [Try.f251]⟩ rfl (by simp [rebOk, noId, adoptT, adoptA, adoptL, adoptC, depth]) ?_
  obtain ⟨n, hn⟩ : ∃ n, n = max f.length g.length := ⟨_, rfl⟩
  have mm : mmV mxI [V.int .i64 f.length, V.int .i64 g.length] = some (V.int .i64 (n : Int)) := by
    simp [mmV, mxI]
    split <;> omega
  have c1 : n * 8 ≤ 140737488355328 := by omega
  have c2 : (n : Int) ≤ 9223372036854775807 := by omega
  have c3 : f.length ≤ n := by omega
  have c4 : min f.length n = f.length := by omega
  have cz := setCs_zeros c3 (fun i => (rdI f i + k * rdI g i) % p)
  have tf : List.take f.length (List.map (V.int .i64) f) = List.map (V.int .i64) f := take_map_full (Nat.le_refl _)
  simp [go_sem, -map_replicate, -map_set, -map_append, -map_reverse, -map_take, -map_drop, -map_tail, -any_map, -all_map, -mapM_map, -map_map, slL, szI, ldI, zI, undL, apL, setI, rdI_get, Nat.add_one_le_iff, fillV, zeros1, zeros0, appendD, segV, lvO, goneOf, sliceD, bound, Nat.add_assoc, mm, c1, c2, c3, c4, zerosI, copyD, tf, cz]
  rw [WL_loop]
  refine WL_for (keep := [0, 3, 9, 21, 22, 23]) (rs := resM Try.f251) rfl (by kernel_rfl) (fun i => mkSt [(0, .int .i64 p), (3, .int .i64 k), (9, .sl 0 0 0 n), (21, (V.list (List.length (g)) (List.map (V.int .i64) (g)))), (22, .int .i64 (g.length : Int)), (23, .int .i64 (i : Int))] [some (⟨0, 2, 1, (inpl n i (fun i => (rdI f i + k * rdI g i) % p) (rdI f)).map (V.int .i64)⟩)] (resM Try.f251)) g.length ?_ ?_ 0 _ (by omega) rfl ?_
  · intro i hi next
    have h1 := hf i
    have h2 := hg i
    have hm := mul_small hp hk h2
    have lA := inpl_len n i (fun i => (rdI f i + k * rdI g i) % p) (rdI f)
    have rA := inpl_rd (i := i) (f := fun i => (rdI f i + k * rdI g i) % p) (g := rdI f) (show i < n by omega)
    have sA : (inpl n i (fun i => (rdI f i + k * rdI g i) % p) (rdI f)).set i ((rdI f i + k * rdI g i) % p) = _ := inpl_set n i (fun i => (rdI f i + k * rdI g i) % p) (rdI f)
    have d1 := up (run_mod p (rdI f i + k * rdI g i) hp)
    have w1 : IntKind.i64.wrap (k * rdI g i) = k * rdI g i := IntWalk.i64_in _ (by omega)
    have w2 : IntKind.i64.wrap (rdI f i + k * rdI g i) = rdI f i + k * rdI g i := IntWalk.i64_in _ (by omega)
    have w3 : IntKind.i64.wrap ((i : Int) + 1) = (i : Int) + 1 := IntWalk.i64_in _ (by omega)
    have k1 : i < n := by omega
    generalize inpl n i (fun i => (rdI f i + k * rdI g i) % p) (rdI f) = A at *
    simp [go_sem, -map_replicate, -map_set, -map_append, -map_reverse, -map_take, -map_drop, -map_tail, -any_map, -all_map, -mapM_map, -map_map, slL, szI, ldI, zI, undL, apL, setI, rdI_get, Nat.add_one_le_iff, fillV, zeros1, zeros0, appendD, segV, lvO, goneOf, sliceD, bound, Nat.add_assoc, hi, k1, lA, rA, d1, w1, w2, w3, setCs1, setCs0]
    repeat refine ⟨by kernel_rfl, by kernel_rfl, ?_⟩
    refine next _ rfl ?_
    (refine canon_mk ?_; simp [method_specs_simp, ordIds_app, ordRen_app, ordIds_app2, ordRen_app2, -map_replicate, -map_set, -map_append, -map_reverse, -map_take, -map_drop, -map_tail, -map_map, sA])
  · have e : inpl n g.length (fun i => (rdI f i + k * rdI g i) % p) (rdI f) = addR p f g k := by unfold addR; rw [hn]
    have lR := addR_len p f g k
    have ht := up (run_trimmed (addR p f g k) (by omega))
    rw [e]
    rw [lR, ← hn] at ht
    simp [go_sem, -map_replicate, -map_set, -map_append, -map_reverse, -map_take, -map_drop, -map_tail, -any_map, -all_map, -mapM_map, -map_map, slL, szI, ldI, zI, undL, apL, setI, rdI_get, Nat.add_one_le_iff, fillV, zeros1, zeros0, appendD, segV, lvO, goneOf, sliceD, bound, Nat.add_assoc, ht, lR, ← hn]
    simp [mvcgen_simp, -map_replicate, -map_set, -map_append, -map_reverse, -map_take, -map_drop, -map_tail, -any_map, -all_map, -mapM_map, -map_map, Try.f251, addP]
  · (refine canon_mk ?_; simp [method_specs_simp, ordIds_app, ordRen_app, ordIds_app2, ordRen_app2, -map_replicate, -map_set, -map_append, -map_reverse, -map_take, -map_drop, -map_tail, -map_map])
theorem run_l01Add (p k : Int) (f g : List Int) (hp : 2 ≤ p ∧ p ≤ 10007) (hf : fine p f) (hg : fine p g) (hk : 0 ≤ k ∧ k < p) (hlf : f.length ≤ 1000) (hlg : g.length ≤ 1000) :
    runv E1 222 [.int .i64 p, (V.list (List.length (f)) (List.map (V.int .i64) (f))), (V.list (List.length (g)) (List.map (V.int .i64) (g))), .int .i64 k] = some ⟨true, (V.uniq 1 (List.length (addP p f g k)) (List.map (V.int .i64) (addP p f g k))), [.undef, .undef, .undef, .undef]⟩ := by
  have cdk : codeOk Try.f222.ntmps (Try.f222.body.getD .skip) = true := by kernel_rfl
  refine run_of_WLr (fn := Try.f222) rfl Try.func222 rfl ⟨by simp [Try.ntmps222], by simp [wideA, ints], cdk, by simp [Try.f222]⟩ rfl (by simp [rebOk, noId, adoptT, adoptA, adoptL, adoptC, depth]) ?_
  obtain ⟨n, hn⟩ : ∃ n, n = max f.length g.length := ⟨_, rfl⟩
  have mm : mmV mxI [V.int .i64 f.length, V.int .i64 g.length] = some (V.int .i64 (n : Int)) := by
    simp [mmV, mxI]
    split <;> omega
  have c1 : n * 8 ≤ 140737488355328 := by omega
  have c2 : (n : Int) ≤ 9223372036854775807 := by omega
  simp [go_sem, -map_replicate, -map_set, -map_append, -map_reverse, -map_take, -map_drop, -map_tail, -any_map, -all_map, -mapM_map, -map_map, slL, szI, ldI, zI, undL, apL, setI, rdI_get, Nat.add_one_le_iff, fillV, zeros1, zeros0, appendD, segV, lvO, goneOf, sliceD, bound, Nat.add_assoc, mm, c1, c2, zerosI]
  rw [WL_loop]
  refine WL_for (keep := [0, 1, 2, 3, 9, 10]) (rs := resM Try.f222) rfl (by kernel_rfl) (fun i => mkSt [(0, .int .i64 p), (1, (V.list (List.length (f)) (List.map (V.int .i64) (f)))), (2, (V.list (List.length (g)) (List.map (V.int .i64) (g)))), (3, .int .i64 k), (9, .sl 0 0 0 n), (10, .int .i64 (i : Int))] [some (⟨0, 2, 1, (inpl n i (rdI f) (fun _ => 0)).map (V.int .i64)⟩)] (resM Try.f222)) f.length ?_ ?_ 0 _ (by omega) rfl ?_
  · intro i hi next
    have lA := inpl_len n i (rdI f) (fun _ => 0)
    have sA : (inpl n i (rdI f) (fun _ => 0)).set i (rdI f i) = _ := inpl_set n i (rdI f) (fun _ => 0)
    have w3 : IntKind.i64.wrap ((i : Int) + 1) = (i : Int) + 1 := IntWalk.i64_in _ (by omega)
    have k1 : i < n := by omega
    generalize inpl n i (rdI f) (fun _ => 0) = A at *
    simp [go_sem, -map_replicate, -map_set, -map_append, -map_reverse, -map_take, -map_drop, -map_tail, -any_map, -all_map, -mapM_map, -map_map, slL, szI, ldI, zI, undL, apL, setI, rdI_get, Nat.add_one_le_iff, fillV, zeros1, zeros0, appendD, segV, lvO, goneOf, sliceD, bound, Nat.add_assoc, hi, k1, lA, w3, setCs1, setCs0]
    repeat refine ⟨by kernel_rfl, by kernel_rfl, ?_⟩
    refine next _ rfl ?_
    (refine canon_mk ?_; simp [method_specs_simp, ordIds_app, ordRen_app, ordIds_app2, ordRen_app2, -map_replicate, -map_set, -map_append, -map_reverse, -map_take, -map_drop, -map_tail, -map_map, sA])
  · have e0 : inpl n f.length (rdI f) (fun _ => 0) = inpl n 0 (fun i => (rdI f i + k * rdI g i) % p) (rdI f) := by
      rw [inpl_zero]
      apply tab_ext
      intro j hj
      split
      · rfl
      · rw [rdI_out (by omega)]
    rw [e0]
    simp [go_sem, -map_replicate, -map_set, -map_append, -map_reverse, -map_take, -map_drop, -map_tail, -any_map, -all_map, -mapM_map, -map_map, slL, szI, ldI, zI, undL, apL, setI, rdI_get, Nat.add_one_le_iff, fillV, zeros1, zeros0, appendD, segV, lvO, goneOf, sliceD, bound, Nat.add_assoc]
    rw [WL_loop]
    refine WL_for (keep := [0, 2, 3, 9, 11]) (rs := resM Try.f222) rfl (by kernel_rfl) (fun i => mkSt [(0, .int .i64 p), (2, (V.list (List.length (g)) (List.map (V.int .i64) (g)))), (3, .int .i64 k), (9, .sl 0 0 0 n), (11, .int .i64 (i : Int))] [some (⟨0, 2, 1, (inpl n i (fun i => (rdI f i + k * rdI g i) % p) (rdI f)).map (V.int .i64)⟩)] (resM Try.f222)) g.length ?_ ?_ 0 _ (by omega) rfl ?_
    · intro i hi next
      have h1 := hf i
      have h2 := hg i
      have hm := mul_small hp hk h2
      have lA := inpl_len n i (fun i => (rdI f i + k * rdI g i) % p) (rdI f)
      have rA := inpl_rd (i := i) (f := fun i => (rdI f i + k * rdI g i) % p) (g := rdI f) (show i < n by omega)
      have sA : (inpl n i (fun i => (rdI f i + k * rdI g i) % p) (rdI f)).set i ((rdI f i + k * rdI g i) % p) = _ := inpl_set n i (fun i => (rdI f i + k * rdI g i) % p) (rdI f)
      have d1 := up (run_l01Mod p (rdI f i + k * rdI g i) hp)
      have w1 : IntKind.i64.wrap (k * rdI g i) = k * rdI g i := IntWalk.i64_in _ (by omega)
      have w2 : IntKind.i64.wrap (rdI f i + k * rdI g i) = rdI f i + k * rdI g i := IntWalk.i64_in _ (by omega)
      have w3 : IntKind.i64.wrap ((i : Int) + 1) = (i : Int) + 1 := IntWalk.i64_in _ (by omega)
      have k1 : i < n := by omega
      generalize inpl n i (fun i => (rdI f i + k * rdI g i) % p) (rdI f) = A at *
      simp [go_sem, -map_replicate, -map_set, -map_append, -map_reverse, -map_take, -map_drop, -map_tail, -any_map, -all_map, -mapM_map, -map_map, slL, szI, ldI, zI, undL, apL, setI, rdI_get, Nat.add_one_le_iff, fillV, zeros1, zeros0, appendD, segV, lvO, goneOf, sliceD, bound, Nat.add_assoc, hi, k1, lA, rA, d1, w1, w2, w3, setCs1, setCs0]
      repeat refine ⟨by kernel_rfl, by kernel_rfl, ?_⟩
      refine next _ rfl ?_
      (refine canon_mk ?_; simp [method_specs_simp, ordIds_app, ordRen_app, ordIds_app2, ordRen_app2, -map_replicate, -map_set, -map_append, -map_reverse, -map_take, -map_drop, -map_tail, -map_map, sA])
    · have e : inpl n g.length (fun i => (rdI f i + k * rdI g i) % p) (rdI f) = addR p f g k := by unfold addR; rw [hn]
      have lR := addR_len p f g k
      have ht := run_l01Trim (addR p f g k) (by omega)
      rw [e]
      rw [lR, ← hn] at ht
      simp [go_sem, -map_replicate, -map_set, -map_append, -map_reverse, -map_take, -map_drop, -map_tail, -any_map, -all_map, -mapM_map, -map_map, slL, szI, ldI, zI, undL, apL, setI, rdI_get, Nat.add_one_le_iff, fillV, zeros1, zeros0, appendD, segV, lvO, goneOf, sliceD, bound, Nat.add_assoc, ht, lR, ← hn]
      simp [mvcgen_simp, -map_replicate, -map_set, -map_append, -map_reverse, -map_take, -map_drop, -map_tail, -any_map, -all_map, -mapM_map, -map_map, Try.f222, addP]
    · (refine canon_mk ?_; simp [method_specs_simp, ordIds_app, ordRen_app, ordIds_app2, ordRen_app2, -map_replicate, -map_set, -map_append, -map_reverse, -map_take, -map_drop, -map_tail, -map_map])
  · have e0 : List.replicate n (0 : Int) = inpl n 0 (rdI f) (fun _ => 0) := by rw [inpl_zero, tab_replicate]
    (refine canon_mk ?_; simp [method_specs_simp, ordIds_app, ordRen_app, ordIds_app2, ordRen_app2, -map_replicate, -map_set, -map_append, -map_reverse, -map_take, -map_drop, -map_tail, -map_map, e0])

/-! ### Products -/
def mulK (p : Int) (f g : List Int) (i : Nat) (A : List Int) : Nat → List Int
  | 0 => A
  | k + 1 => addAt p (mulK p f g i A k) (i + k) (rdI f i * rdI g k)
def mulI (p : Int) (f g : List Int) : Nat → List Int
  | 0 => List.replicate (f.length + g.length - 1) 0
  | i + 1 => mulK p f g i (mulI p f g i) g.length
def mulP (p : Int) (f g : List Int) : List Int := if f.length = 0 ∨ g.length = 0 then [] else trimL (mulI p f g f.length)
theorem mulK_len (p : Int) (f g : List Int) (i : Nat) (A : List Int) : ∀ k, (mulK p f g i A k).length = A.length
  | 0 => rfl
  | k + 1 => by rw [mulK, addAt_len, mulK_len p f g i A k]
theorem mulI_len (p : Int) (f g : List Int) : ∀ i, (mulI p f g i).length = f.length + g.length - 1
  | 0 => by simp [mulI]
  | i + 1 => by rw [mulI, mulK_len, mulI_len p f g i]
theorem mulK_fine {p : Int} (hp : 2 ≤ p ∧ p ≤ 10007) (f g : List Int) (i : Nat) {A : List Int} (h : fine p A) : ∀ k, fine p (mulK p f g i A k)
  | 0 => h
  | k + 1 => addAt_fine hp (mulK_fine hp f g i h k) _ _
theorem zeros_fine {p : Int} (hp : 2 ≤ p) (n : Nat) : fine p (List.replicate n 0) := fun j => by
  have : rdI (List.replicate n (0 : Int)) j = 0 := by
    simp [rdI, List.getD_eq_getElem?_getD, List.getElem?_replicate]; split <;> rfl
  rw [this]; omega
theorem mulI_fine {p : Int} (hp : 2 ≤ p ∧ p ≤ 10007) (f g : List Int) : ∀ i, fine p (mulI p f g i)
  | 0 => zeros_fine hp.1 _
  | i + 1 => mulK_fine hp f g i (mulI_fine hp f g i) _
theorem mulP_fine {p : Int} (hp : 2 ≤ p ∧ p ≤ 10007) (f g : List Int) : fine p (mulP p f g) := by
  unfold mulP; split
  · exact fine_nil hp.1
  · exact trimL_fine hp (mulI_fine hp f g _)
theorem mulP_le (p : Int) (f g : List Int) : (mulP p f g).length ≤ f.length + g.length - 1 := by
  unfold mulP; split
  · simp
  · have := trimL_le (mulI p f g f.length); rw [mulI_len] at this; exact this

theorem run_product (p : Int) (f g : List Int) (hp : 2 ≤ p ∧ p ≤ 10007) (hf : fine p f) (hg : fine p g) (hlf : f.length ≤ 1000) (hlg : g.length ≤ 1000) :
    runv E1 138 [.int .i64 p, (V.list (List.length (f)) (List.map (V.int .i64) (f))), (V.list (List.length (g)) (List.map (V.int .i64) (g)))] = some ⟨true, (V.uniq 1 (List.length (mulP p f g)) (List.map (V.int .i64) (mulP p f g))), [.undef, .undef, .undef]⟩ := by
  have cdk : codeOk Try.f138.ntmps (Try.f138.body.getD .skip) = true := by kernel_rfl
  refine run_of_WLr (fn := Try.f138) rfl Try.func138 rfl ⟨by simp [Try.ntmps138], by simp [wideA, ints], cdk, by simp [Try.f138]⟩ rfl (by simp [rebOk, noId, adoptT, adoptA, adoptL, adoptC, depth]) ?_
  by_cases z1 : f = []
  · have e : mulP p f g = [] := if_pos (.inl (by rw [z1]; rfl))
    subst z1
    simp [go_sem, -map_replicate, -map_set, -map_append, -map_reverse, -map_take, -map_drop, -map_tail, -any_map, -all_map, -mapM_map, -map_map, slL, szI, ldI, zI, undL, apL, setI, rdI_get, Nat.add_one_le_iff, fillV, zeros1, zeros0, appendD, segV, lvO, goneOf, sliceD, bound, Nat.add_assoc]
    simp [mvcgen_simp, -map_replicate, -map_set, -map_append, -map_reverse, -map_take, -map_drop, -map_tail, -any_map, -all_map, -mapM_map, -map_map, Try.f138, e]
  by_cases z2 : g = []
  · have e : mulP p f g = [] := if_pos (.inr (by rw [z2]; rfl))
    subst z2
    simp [go_sem, -map_replicate, -map_set, -map_append, -map_reverse, -map_take, -map_drop, -map_tail, -any_map, -all_map, -mapM_map, -map_map, slL, szI, ldI, zI, undL, apL, setI, rdI_get, Nat.add_one_le_iff, fillV, zeros1, zeros0, appendD, segV, lvO, goneOf, sliceD, bound, Nat.add_assoc, z1]
    simp [mvcgen_simp, -map_replicate, -map_set, -map_append, -map_reverse, -map_take, -map_drop, -map_tail, -any_map, -all_map, -mapM_map, -map_map, Try.f138, e]
  have y1 : 0 < f.length := List.length_pos_iff.2 z1
  have y2 : 0 < g.length := List.length_pos_iff.2 z2
  have e : mulP p f g = trimL (mulI p f g f.length) := if_neg (by omega)
  obtain ⟨n, hn⟩ : ∃ n, n = f.length + g.length - 1 := ⟨_, rfl⟩
  have w0 : IntKind.i64.wrap ((f.length : Int) + g.length) = (f.length : Int) + g.length := IntWalk.i64_in _ (by omega)
  have w1 : IntKind.i64.wrap ((f.length : Int) + g.length - 1) = (n : Int) := by rw [IntWalk.i64_in _ (by omega)]; omega
  have c1 : n * 8 ≤ 140737488355328 := by omega
  have c2 : (n : Int) ≤ 9223372036854775807 := by omega
  simp [go_sem, -map_replicate, -map_set, -map_append, -map_reverse, -map_take, -map_drop, -map_tail, -any_map, -all_map, -mapM_map, -map_map, slL, szI, ldI, zI, undL, apL, setI, rdI_get, Nat.add_one_le_iff, fillV, zeros1, zeros0, appendD, segV, lvO, goneOf, sliceD, bound, Nat.add_assoc, z1, z2, w0, w1, c1, c2, zerosI]
  rw [WL_loop]
  refine WL_for (keep := [0, 2, 7, 27, 28, 29]) (rs := resM Try.f138) rfl (by kernel_rfl) (fun i => mkSt [(0, .int .i64 p), (2, (V.list (List.length (g)) (List.map (V.int .i64) (g)))), (7, .sl 0 0 0 n), (27, (V.list (List.length (f)) (List.map (V.int .i64) (f)))), (28, .int .i64 (f.length : Int)), (29, .int .i64 (i : Int))] [some (⟨0, 2, 1, (mulI p f g i).map (V.int .i64)⟩)] (resM Try.f138)) f.length ?_ ?_ 0 _ (by omega) rfl ?_
  · intro i hi next
    have lI := mulI_len p f g i
    have fI := mulI_fine hp f g i
    have eI : mulI p f g (i + 1) = mulK p f g i (mulI p f g i) g.length := rfl
    have w3 : IntKind.i64.wrap ((i : Int) + 1) = (i : Int) + 1 := IntWalk.i64_in _ (by omega)
    generalize mulI p f g i = A0 at *
    simp [go_sem, -map_replicate, -map_set, -map_append, -map_reverse, -map_take, -map_drop, -map_tail, -any_map, -all_map, -mapM_map, -map_map, slL, szI, ldI, zI, undL, apL, setI, rdI_get, Nat.add_one_le_iff, fillV, zeros1, zeros0, appendD, segV, lvO, goneOf, sliceD, bound, Nat.add_assoc, hi]
    rw [WL_loop]
    refine WL_for (keep := [0, 2, 7, 8, 9, 27, 28, 29, 34, 35, 36]) (rs := resM Try.f138) rfl (by kernel_rfl) (fun k => mkSt [(0, .int .i64 p), (2, (V.list (List.length (g)) (List.map (V.int .i64) (g)))), (7, .sl 0 0 0 n), (8, .int .i64 (i : Int)), (9, .int .i64 (rdI f i)), (27, (V.list (List.length (f)) (List.map (V.int .i64) (f)))), (28, .int .i64 (f.length : Int)), (29, .int .i64 (i : Int)), (34, (V.list (List.length (g)) (List.map (V.int .i64) (g)))), (35, .int .i64 (g.length : Int)), (36, .int .i64 (k : Int))] [some (⟨0, 2, 1, (mulK p f g i A0 k).map (V.int .i64)⟩)] (resM Try.f138)) g.length ?_ ?_ 0 _ (by omega) rfl ?_
    · intro k hk next'
      have h1 := hf i
      have h2 := hg k
      have hm := mul_small hp h1 h2
      have lA := mulK_len p f g i A0 k
      have h3 := mulK_fine hp f g i fI k (i + k)
      have sA : (mulK p f g i A0 k).set (i + k) ((rdI (mulK p f g i A0 k) (i + k) + rdI f i * rdI g k) % p) = mulK p f g i A0 (k + 1) := rfl
      generalize mulK p f g i A0 k = A at *
      have d1 := up (run_mod p (rdI A (i + k) + rdI f i * rdI g k) hp)
      have v1 : IntKind.i64.wrap (rdI f i * rdI g k) = rdI f i * rdI g k := IntWalk.i64_in _ (by omega)
      have v2 : IntKind.i64.wrap (rdI A (i + k) + rdI f i * rdI g k) = rdI A (i + k) + rdI f i * rdI g k := IntWalk.i64_in _ (by omega)
      have v3 : IntKind.i64.wrap ((k : Int) + 1) = (k : Int) + 1 := IntWalk.i64_in _ (by omega)
      obtain ⟨m, em⟩ : ∃ m, m = i + k := ⟨_, rfl⟩
      have v4 : IntKind.i64.wrap ((i : Int) + k) = (m : Int) := by rw [IntWalk.i64_in _ (by omega)]; omega
      have k1 : m < n := by omega
      have lA' : A.length = n := by omega
      rw [← em] at d1 v2 sA
      simp [go_sem, -map_replicate, -map_set, -map_append, -map_reverse, -map_take, -map_drop, -map_tail, -any_map, -all_map, -mapM_map, -map_map, slL, szI, ldI, zI, undL, apL, setI, rdI_get, Nat.add_one_le_iff, fillV, zeros1, zeros0, appendD, segV, lvO, goneOf, sliceD, bound, Nat.add_assoc, hk, k1, lA', d1, v1, v2, v3, v4, setCs1, setCs0]
      repeat refine ⟨by kernel_rfl, by kernel_rfl, ?_⟩
      refine next' _ rfl ?_
      (refine canon_mk ?_; simp [method_specs_simp, ordIds_app, ordRen_app, ordIds_app2, ordRen_app2, -map_replicate, -map_set, -map_append, -map_reverse, -map_take, -map_drop, -map_tail, -map_map, sA])
    · simp [go_sem, -map_replicate, -map_set, -map_append, -map_reverse, -map_take, -map_drop, -map_tail, -any_map, -all_map, -mapM_map, -map_map, slL, szI, ldI, zI, undL, apL, setI, rdI_get, Nat.add_one_le_iff, fillV, zeros1, zeros0, appendD, segV, lvO, goneOf, sliceD, bound, Nat.add_assoc, w3]
      refine next _ rfl ?_
      (refine canon_mk ?_; simp [method_specs_simp, ordIds_app, ordRen_app, ordIds_app2, ordRen_app2, -map_replicate, -map_set, -map_append, -map_reverse, -map_take, -map_drop, -map_tail, -map_map, eI])
    · (refine canon_mk ?_; simp [method_specs_simp, ordIds_app, ordRen_app, ordIds_app2, ordRen_app2, -map_replicate, -map_set, -map_append, -map_reverse, -map_take, -map_drop, -map_tail, -map_map, mulK])
  · have lR := mulI_len p f g f.length
    have ht := up (run_trimmed (mulI p f g f.length) (by omega))
    rw [lR, ← hn] at ht
    simp [go_sem, -map_replicate, -map_set, -map_append, -map_reverse, -map_take, -map_drop, -map_tail, -any_map, -all_map, -mapM_map, -map_map, slL, szI, ldI, zI, undL, apL, setI, rdI_get, Nat.add_one_le_iff, fillV, zeros1, zeros0, appendD, segV, lvO, goneOf, sliceD, bound, Nat.add_assoc, ht, lR, ← hn]
    simp [mvcgen_simp, -map_replicate, -map_set, -map_append, -map_reverse, -map_take, -map_drop, -map_tail, -any_map, -all_map, -mapM_map, -map_map, Try.f138, e]
  · (refine canon_mk ?_; simp [method_specs_simp, ordIds_app, ordRen_app, ordIds_app2, ordRen_app2, -map_replicate, -map_set, -map_append, -map_reverse, -map_take, -map_drop, -map_tail, -map_map, mulI, ← hn])
theorem run_l01Times (p : Int) (f g : List Int) (hp : 2 ≤ p ∧ p ≤ 10007) (hf : fine p f) (hg : fine p g) (hlf : f.length ≤ 1000) (hlg : g.length ≤ 1000) :
    runv E1 196 [.int .i64 p, (V.list (List.length (f)) (List.map (V.int .i64) (f))), (V.list (List.length (g)) (List.map (V.int .i64) (g)))] = some ⟨true, (V.uniq 1 (List.length (mulP p f g)) (List.map (V.int .i64) (mulP p f g))), [.undef, .undef, .undef]⟩ := by
  have cdk : codeOk Try.f196.ntmps (Try.f196.body.getD .skip) = true := by kernel_rfl
  refine run_of_WLr (fn := Try.f196) rfl Try.func196 rfl ⟨by simp [Try.ntmps196], by simp [wideA, ints], cdk, by simp [Try.f196]⟩ rfl (by simp [rebOk, noId, adoptT, adoptA, adoptL, adoptC, depth]) ?_
  by_cases z1 : f = []
  · have e : mulP p f g = [] := if_pos (.inl (by rw [z1]; rfl))
    subst z1
    simp [go_sem, -map_replicate, -map_set, -map_append, -map_reverse, -map_take, -map_drop, -map_tail, -any_map, -all_map, -mapM_map, -map_map, slL, szI, ldI, zI, undL, apL, setI, rdI_get, Nat.add_one_le_iff, fillV, zeros1, zeros0, appendD, segV, lvO, goneOf, sliceD, bound, Nat.add_assoc]
    simp [mvcgen_simp, -map_replicate, -map_set, -map_append, -map_reverse, -map_take, -map_drop, -map_tail, -any_map, -all_map, -mapM_map, -map_map, Try.f196, e]
  by_cases z2 : g = []
  · have e : mulP p f g = [] := if_pos (.inr (by rw [z2]; rfl))
    subst z2
    simp [go_sem, -map_replicate, -map_set, -map_append, -map_reverse, -map_take, -map_drop, -map_tail, -any_map, -all_map, -mapM_map, -map_map, slL, szI, ldI, zI, undL, apL, setI, rdI_get, Nat.add_one_le_iff, fillV, zeros1, zeros0, appendD, segV, lvO, goneOf, sliceD, bound, Nat.add_assoc, z1]
    simp [mvcgen_simp, -map_replicate, -map_set, -map_append, -map_reverse, -map_take, -map_drop, -map_tail, -any_map, -all_map, -mapM_map, -map_map, Try.f196, e]
  have y1 : 0 < f.length := List.length_pos_iff.2 z1
  have y2 : 0 < g.length := List.length_pos_iff.2 z2
  have e : mulP p f g = trimL (mulI p f g f.length) := if_neg (by omega)
  obtain ⟨n, hn⟩ : ∃ n, n = f.length + g.length - 1 := ⟨_, rfl⟩
  have w0 : IntKind.i64.wrap ((f.length : Int) + g.length) = (f.length : Int) + g.length := IntWalk.i64_in _ (by omega)
  have w1 : IntKind.i64.wrap ((f.length : Int) + g.length - 1) = (n : Int) := by rw [IntWalk.i64_in _ (by omega)]; omega
  have c1 : n * 8 ≤ 140737488355328 := by omega
  have c2 : (n : Int) ≤ 9223372036854775807 := by omega
  simp [go_sem, -map_replicate, -map_set, -map_append, -map_reverse, -map_take, -map_drop, -map_tail, -any_map, -all_map, -mapM_map, -map_map, slL, szI, ldI, zI, undL, apL, setI, rdI_get, Nat.add_one_le_iff, fillV, zeros1, zeros0, appendD, segV, lvO, goneOf, sliceD, bound, Nat.add_assoc, z1, z2, w0, w1, c1, c2, zerosI]
  rw [WL_loop]
  refine WL_for (keep := [0, 1, 2, 7, 8]) (rs := resM Try.f196) rfl (by kernel_rfl) (fun i => mkSt [(0, .int .i64 p), (1, (V.list (List.length (f)) (List.map (V.int .i64) (f)))), (2, (V.list (List.length (g)) (List.map (V.int .i64) (g)))), (7, .sl 0 0 0 n), (8, .int .i64 (i : Int))] [some (⟨0, 2, 1, (mulI p f g i).map (V.int .i64)⟩)] (resM Try.f196)) f.length ?_ ?_ 0 _ (by omega) rfl ?_
  · intro i hi next
    have lI := mulI_len p f g i
    have fI := mulI_fine hp f g i
    have eI : mulI p f g (i + 1) = mulK p f g i (mulI p f g i) g.length := rfl
    have w3 : IntKind.i64.wrap ((i : Int) + 1) = (i : Int) + 1 := IntWalk.i64_in _ (by omega)
    generalize mulI p f g i = A0 at *
    simp [go_sem, -map_replicate, -map_set, -map_append, -map_reverse, -map_take, -map_drop, -map_tail, -any_map, -all_map, -mapM_map, -map_map, slL, szI, ldI, zI, undL, apL, setI, rdI_get, Nat.add_one_le_iff, fillV, zeros1, zeros0, appendD, segV, lvO, goneOf, sliceD, bound, Nat.add_assoc, hi]
    rw [WL_loop]
    refine WL_for (keep := [0, 1, 2, 7, 8, 9]) (rs := resM Try.f196) rfl (by kernel_rfl) (fun k => mkSt [(0, .int .i64 p), (1, (V.list (List.length (f)) (List.map (V.int .i64) (f)))), (2, (V.list (List.length (g)) (List.map (V.int .i64) (g)))), (7, .sl 0 0 0 n), (8, .int .i64 (i : Int)), (9, .int .i64 (k : Int))] [some (⟨0, 2, 1, (mulK p f g i A0 k).map (V.int .i64)⟩)] (resM Try.f196)) g.length ?_ ?_ 0 _ (by omega) rfl ?_
    · intro k hk next'
      have h1 := hf i
      have h2 := hg k
      have hm := mul_small hp h1 h2
      have lA := mulK_len p f g i A0 k
      have h3 := mulK_fine hp f g i fI k (i + k)
      have sA : (mulK p f g i A0 k).set (i + k) ((rdI (mulK p f g i A0 k) (i + k) + rdI f i * rdI g k) % p) = mulK p f g i A0 (k + 1) := rfl
      generalize mulK p f g i A0 k = A at *
      have d1 : (rdI A (i + k) + rdI f i * rdI g k).tmod p = (rdI A (i + k) + rdI f i * rdI g k) % p := Int.tmod_eq_emod_of_nonneg (by omega)
      have hpn : ¬ p = 0 := by omega
      have v1 : IntKind.i64.wrap (rdI f i * rdI g k) = rdI f i * rdI g k := IntWalk.i64_in _ (by omega)
      have v2 : IntKind.i64.wrap (rdI A (i + k) + rdI f i * rdI g k) = rdI A (i + k) + rdI f i * rdI g k := IntWalk.i64_in _ (by omega)
      have v3 : IntKind.i64.wrap ((k : Int) + 1) = (k : Int) + 1 := IntWalk.i64_in _ (by omega)
      obtain ⟨m, em⟩ : ∃ m, m = i + k := ⟨_, rfl⟩
      have v4 : IntKind.i64.wrap ((i : Int) + k) = (m : Int) := by rw [IntWalk.i64_in _ (by omega)]; omega
      have k1 : m < n := by omega
      have lA' : A.length = n := by omega
      rw [← em] at d1 v2 sA
      simp [go_sem, -map_replicate, -map_set, -map_append, -map_reverse, -map_take, -map_drop, -map_tail, -any_map, -all_map, -mapM_map, -map_map, slL, szI, ldI, zI, undL, apL, setI, rdI_get, Nat.add_one_le_iff, fillV, zeros1, zeros0, appendD, segV, lvO, goneOf, sliceD, bound, Nat.add_assoc, hi, hk, k1, lA', hpn, d1, v1, v2, v3, v4, setCs1, setCs0]
      repeat refine ⟨by kernel_rfl, by kernel_rfl, ?_⟩
      refine next' _ rfl ?_
      (refine canon_mk ?_; simp [method_specs_simp, ordIds_app, ordRen_app, ordIds_app2, ordRen_app2, -map_replicate, -map_set, -map_append, -map_reverse, -map_take, -map_drop, -map_tail, -map_map, sA])
    · simp [go_sem, -map_replicate, -map_set, -map_append, -map_reverse, -map_take, -map_drop, -map_tail, -any_map, -all_map, -mapM_map, -map_map, slL, szI, ldI, zI, undL, apL, setI, rdI_get, Nat.add_one_le_iff, fillV, zeros1, zeros0, appendD, segV, lvO, goneOf, sliceD, bound, Nat.add_assoc, w3]
      refine next _ rfl ?_
      (refine canon_mk ?_; simp [method_specs_simp, ordIds_app, ordRen_app, ordIds_app2, ordRen_app2, -map_replicate, -map_set, -map_append, -map_reverse, -map_take, -map_drop, -map_tail, -map_map, eI])
    · (refine canon_mk ?_; simp [method_specs_simp, ordIds_app, ordRen_app, ordIds_app2, ordRen_app2, -map_replicate, -map_set, -map_append, -map_reverse, -map_take, -map_drop, -map_tail, -map_map, mulK])
  · have lR := mulI_len p f g f.length
    have ht := run_l01Trim (mulI p f g f.length) (by omega)
    rw [lR, ← hn] at ht
    simp [go_sem, -map_replicate, -map_set, -map_append, -map_reverse, -map_take, -map_drop, -map_tail, -any_map, -all_map, -mapM_map, -map_map, slL, szI, ldI, zI, undL, apL, setI, rdI_get, Nat.add_one_le_iff, fillV, zeros1, zeros0, appendD, segV, lvO, goneOf, sliceD, bound, Nat.add_assoc, ht, lR, ← hn]
    simp [mvcgen_simp, -map_replicate, -map_set, -map_append, -map_reverse, -map_take, -map_drop, -map_tail, -any_map, -all_map, -mapM_map, -map_map, Try.f196, e]
  · (refine canon_mk ?_; simp [method_specs_simp, ordIds_app, ordRen_app, ordIds_app2, ordRen_app2, -map_replicate, -map_set, -map_append, -map_reverse, -map_take, -map_drop, -map_tail, -map_map, mulI, ← hn])
end Go.Proofs.Ytabnganndcmcnaa.Ev
