/- Changes of moments. Conditions: none. -/
/- Powers; DivideMoments and AddMass. Conditions: none. -/
/- Powers and inverses: both texts. Conditions: none. -/
import Derived.Test.YtacfkfdnncgjcaaFnP
set_option linter.unusedSimpArgs false
set_option linter.unusedVariables false
namespace Go.Proofs.Ytacfkfdnncgjcaa.Ev
open Go Go.Proofs
open List (map_replicate map_set map_append map_reverse map_take map_drop map_tail any_map all_map mapM_map map_map)
set_option maxRecDepth 4000
set_option maxHeartbeats 4000000

/-- A value that is a list of its own that grows: nil, or an object with a number beyond lo. -/
def GV (kd : IntKind) (lo : Nat) (st : St) (v : V) (l : List Int) : Prop :=
  (l = [] ∧ v = .nils) ∨ ∃ id ver, v = .sl id ver 0 l.length ∧ st.H id = some ⟨ver, 2, 1, l.map (V.int kd)⟩ ∧ id < st.nx ∧ lo < id
theorem GV.own {kd : IntKind} {st : St} {v : V} {lo id ver : Nat} {l : List Int} (n : Nat) (h : v = .sl id ver 0 n) (hn : n = l.length) (hH : st.H id = some ⟨ver, 2, 1, l.map (V.int kd)⟩) (hx : id < st.nx) (hlo : lo < id) : GV kd lo st v l :=
  .inr ⟨id, ver, by rw [h, hn], hH, hx, hlo⟩

theorem seg_drop (l : List Int) (k n : Nat) (h : n = l.length - k) : ((l.map (V.int .i64)).drop k).take n = (l.drop k).map (V.int .i64) := by
  rw [← List.map_drop, take_map_full (by simp; omega)]
theorem seg_tail (l : List Int) : (l.map (V.int .i64)).tail.take (l.length - 1) = l.tail.map (V.int .i64) := by
  rw [← List.map_tail, take_map_full (by simp)]
theorem rdI_tail (l : List Int) (i : Nat) : rdI l.tail i = rdI l (i + 1) := by cases l <;> simp [rdI]
theorem seg_take (l : List Int) (n : Nat) : (l.map (V.int .i64)).take n = (l.take n).map (V.int .i64) := by rw [List.map_take]
theorem rdI_drop (l : List Int) (k i : Nat) : rdI (l.drop k) i = rdI l (k + i) := by simp [rdI]

theorem run_Clone (l : List Int) (h0 : 0 < l.length) (hl : l.length ≤ 1048576) : runv E0 131 [(V.list (List.length (l)) (List.map (V.int .i64) (l)))] = some ⟨true, (V.uniq 1 (List.length (l)) (List.map (V.int .i64) (l))), [.undef]⟩ := by
  have cdk : codeOk Try.f131.ntmps (Try.f131.body.getD .skip) = true := by kernel_rfl
  refine run_of_WL (fn := Try.f131) rfl Try.func131 rfl ⟨by simp [Try.ntmps131], by simp [wideA, ints], cdk, by simp [Try.f131]⟩ ?_
  cases l with
  | nil => simp at h0
  | cons a t =>
    have c1 : (t.length + 1) * 8 ≤ 140737488355328 := by simp at hl; omega
    simp [go_sem, -map_replicate, -map_set, -map_append, -map_reverse, -map_take, -map_drop, -map_tail, -any_map, -all_map, -mapM_map, -map_map, slL, szI, ldI, zI, undL, apL, setI, rdI_get, Nat.add_one_le_iff, fillV, zeros1, zeros0, appendD, segV, lvO, goneOf, sliceD, bound, Nat.add_assoc, c1]
    simp [mvcgen_simp, -map_replicate, -map_set, -map_append, -map_reverse, -map_take, -map_drop, -map_tail, -any_map, -all_map, -mapM_map, -map_map, Try.f131]
theorem run_with (p : Int) (l m : List Int) (h0 : 0 < m.length) (hm : m.length ≤ 1048576) : runv E0 72 [(V.agg [V.int .i64 (p), (V.list (List.length (l)) (List.map (V.int .i64) (l)))]), (V.list (List.length (m)) (List.map (V.int .i64) (m)))] = some ⟨true, (V.agg [V.int .i64 (p), (V.uniq 1 (List.length (m)) (List.map (V.int .i64) (m)))]), [.agg [.undef, .undef], .undef]⟩ := by
  have cdk : codeOk Try.f72.ntmps (Try.f72.body.getD .skip) = true := by kernel_rfl
  refine run_of_WL (fn := Try.f72) rfl Try.func72 rfl ⟨by simp [Try.ntmps72], by simp [wideA, ints], cdk, by simp [Try.f72]⟩ ?_
  have h1 := run_Clone m h0 hm
  simp [go_sem, -map_replicate, -map_set, -map_append, -map_reverse, -map_take, -map_drop, -map_tail, -any_map, -all_map, -mapM_map, -map_map, slL, szI, ldI, zI, undL, apL, setI, rdI_get, Nat.add_one_le_iff, fillV, zeros1, zeros0, appendD, segV, lvO, goneOf, sliceD, bound, Nat.add_assoc, szL, ldL, setCs0, setCs1, setCs2, setCsA2, setCsA3, ldM, fM0, fM1, szM, zM, plM0, plM1, agM, paM, ldJ, fJ0, fJ1, fJ2, szJ, zJ, plJ0, plJ1, plJ2, agJ, paJ, h1]
  refine ⟨by kernel_rfl, by kernel_rfl, ?_⟩
  simp [mvcgen_simp, -map_replicate, -map_set, -map_append, -map_reverse, -map_take, -map_drop, -map_tail, -any_map, -all_map, -mapM_map, -map_map, Try.f72, szL, ldL, setCs0, setCs1, setCs2, setCsA2, setCsA3, ldM, fM0, fM1, szM, zM, plM0, plM1, agM, paM, ldJ, fJ0, fJ1, fJ2, szJ, zJ, plJ0, plJ1, plJ2, agJ, paJ, ctM, loadD, viewN]

/-! ### MultiplyMoments -/
theorem run_Multiply1 (p c : Int) (l : List Int) : runv E0 71 [.ref [.int .i64 p, (V.list (List.length (l)) (List.map (V.int .i64) (l)))] 0, .ref [.int .i64 c] 0] = some ⟨true, .bool (hasB p c), [.undef, .undef]⟩ := by
  have cdk : codeOk Try.f71.ntmps (Try.f71.body.getD .skip) = true := by kernel_rfl
  refine run_of_WL (fn := Try.f71) rfl Try.func71 rfl ⟨by simp [Try.ntmps71], by simp [wideA, ints], cdk, by simp [Try.f71]⟩ ?_
  simp [go_sem, -map_replicate, -map_set, -map_append, -map_reverse, -map_take, -map_drop, -map_tail, -any_map, -all_map, -mapM_map, -map_map, slL, szI, ldI, zI, undL, apL, setI, rdI_get, Nat.add_one_le_iff, fillV, zeros1, zeros0, appendD, segV, lvO, goneOf, sliceD, bound, Nat.add_assoc, szL, ldL, setCs0, setCs1, setCs2, setCsA2, setCsA3, ldM, fM0, fM1, szM, zM, plM0, plM1, agM, paM, ldJ, fJ0, fJ1, fJ2, szJ, zJ, plJ0, plJ1, plJ2, agJ, paJ, run_Mfield, run_has]
  refine ⟨by kernel_rfl, by kernel_rfl, ?_⟩
  simp [mvcgen_simp, -map_replicate, -map_set, -map_append, -map_reverse, -map_take, -map_drop, -map_tail, -any_map, -all_map, -mapM_map, -map_map, Try.f71]

def mulL (p : Int) (l : List Int) (c : Int) : List Int := tab (l.length - 1) fun k => (rdI l (k + 1) - c * rdI l k) % p
def mulM (p : Int) (l : List Int) (c : Int) : Int × List Int × Int :=
  if momB p l then (if hasB p c then (if l.length = 1 then (0, [], 5) else (p, mulL p l c, 0)) else (0, [], 2)) else (0, [], 1)
theorem mulM_len (p : Int) (l : List Int) (c : Int) (hl : l.length ≤ 1048576) : (mulM p l c).2.1.length ≤ 1048576 := by
  unfold mulM; (repeat' split) <;> simp [mulL, tab_len] <;> omega

theorem run_implMultiplyMoments (p : Int) (l : List Int) (c : Int) (hl : l.length ≤ 1048576) :
    runv E0 21 [(V.agg [V.int .i64 (p), (V.list (List.length (l)) (List.map (V.int .i64) (l)))]), .int .i64 c] = some ⟨true, .tup [(V.agg [V.int .i64 ((mulM p l c).1), (V.uniq 1 (List.length ((mulM p l c).2.1)) (List.map (V.int .i64) ((mulM p l c).2.1)))]), .int .i64 (mulM p l c).2.2], [.agg [.undef, .undef], .undef]⟩ := by
  have cdk : codeOk Try.f21.ntmps (Try.f21.body.getD .skip) = true := by kernel_rfl
  refine run_of_WL (fn := Try.f21) rfl Try.func21 rfl ⟨by simp [Try.ntmps21], by simp [wideA, ints], cdk, by simp [Try.f21]⟩ ?_
  have h1 := run_mcode0 p l 71 [] [.ref [.int .i64 p, (V.list (List.length (l)) (List.map (V.int .i64) (l)))] 0, .ref [.int .i64 c] 0] (hasB p c) (by omega) (fv_ref2 _ _ _ _) (fun H b => by
    have := run_Multiply1 p c l
    simp [modesOf, callD, prepL, prepA, purN, idsN, depth, this, nodupB, flatO, noTup, backW, widthOk, wideA, adopt, adoptA, adoptC, treeN])
  cases e : momB p l with
  | false =>
    rw [e] at h1
    simp [go_sem, -map_replicate, -map_set, -map_append, -map_reverse, -map_take, -map_drop, -map_tail, -any_map, -all_map, -mapM_map, -map_map, slL, szI, ldI, zI, undL, apL, setI, rdI_get, Nat.add_one_le_iff, fillV, zeros1, zeros0, appendD, segV, lvO, goneOf, sliceD, bound, Nat.add_assoc, szL, ldL, setCs0, setCs1, setCs2, setCsA2, setCsA3, ldM, fM0, fM1, szM, zM, plM0, plM1, agM, paM, ldJ, fJ0, fJ1, fJ2, szJ, zJ, plJ0, plJ1, plJ2, agJ, paJ, h1, fillV]
    simp [mvcgen_simp, -map_replicate, -map_set, -map_append, -map_reverse, -map_take, -map_drop, -map_tail, -any_map, -all_map, -mapM_map, -map_map, Try.f21, mulM, e, szL, ldL, setCs0, setCs1, setCs2, setCsA2, setCsA3, ldM, fM0, fM1, szM, zM, plM0, plM1, agM, paM, ldJ, fJ0, fJ1, fJ2, szJ, zJ, plJ0, plJ1, plJ2, agJ, paJ, ctM, loadD, viewN]
  | true =>
    rw [e] at h1
    cases e2 : hasB p c with
    | false =>
      rw [e2] at h1
      simp [go_sem, -map_replicate, -map_set, -map_append, -map_reverse, -map_take, -map_drop, -map_tail, -any_map, -all_map, -mapM_map, -map_map, slL, szI, ldI, zI, undL, apL, setI, rdI_get, Nat.add_one_le_iff, fillV, zeros1, zeros0, appendD, segV, lvO, goneOf, sliceD, bound, Nat.add_assoc, szL, ldL, setCs0, setCs1, setCs2, setCsA2, setCsA3, ldM, fM0, fM1, szM, zM, plM0, plM1, agM, paM, ldJ, fJ0, fJ1, fJ2, szJ, zJ, plJ0, plJ1, plJ2, agJ, paJ, h1, fillV]
      simp [mvcgen_simp, -map_replicate, -map_set, -map_append, -map_reverse, -map_take, -map_drop, -map_tail, -any_map, -all_map, -mapM_map, -map_map, Try.f21, mulM, e, e2, szL, ldL, setCs0, setCs1, setCs2, setCsA2, setCsA3, ldM, fM0, fM1, szM, zM, plM0, plM1, agM, paM, ldJ, fJ0, fJ1, fJ2, szJ, zJ, plJ0, plJ1, plJ2, agJ, paJ, ctM, loadD, viewN]
    | true =>
      rw [e2] at h1
      by_cases e3 : l.length = 1
      · have e3i : (l.length : Int) = 1 := by omega
        simp [go_sem, -map_replicate, -map_set, -map_append, -map_reverse, -map_take, -map_drop, -map_tail, -any_map, -all_map, -mapM_map, -map_map, slL, szI, ldI, zI, undL, apL, setI, rdI_get, Nat.add_one_le_iff, fillV, zeros1, zeros0, appendD, segV, lvO, goneOf, sliceD, bound, Nat.add_assoc, szL, ldL, setCs0, setCs1, setCs2, setCsA2, setCsA3, ldM, fM0, fM1, szM, zM, plM0, plM1, agM, paM, ldJ, fJ0, fJ1, fJ2, szJ, zJ, plJ0, plJ1, plJ2, agJ, paJ, h1, fillV, e3i]
        simp [mvcgen_simp, -map_replicate, -map_set, -map_append, -map_reverse, -map_take, -map_drop, -map_tail, -any_map, -all_map, -mapM_map, -map_map, Try.f21, mulM, e, e2, e3, szL, ldL, setCs0, setCs1, setCs2, setCsA2, setCsA3, ldM, fM0, fM1, szM, zM, plM0, plM1, agM, paM, ldJ, fJ0, fJ1, fJ2, szJ, zJ, plJ0, plJ1, plJ2, agJ, paJ, ctM, loadD, viewN]
      · have hll := momB_len e
        have hp := momB_prime e
        have hc := hasB_range e2
        have e3' : ¬ (l.length : Int) = 1 := by omega
        have hw := run_with p l l.tail (by simp; omega) (by simp; omega)
        simp only [List.length_tail] at hw
        have hd := seg_tail l
        have h1l : 1 ≤ l.length := by omega
        simp [go_sem, -map_replicate, -map_set, -map_append, -map_reverse, -map_take, -map_drop, -map_tail, -any_map, -all_map, -mapM_map, -map_map, slL, szI, ldI, zI, undL, apL, setI, rdI_get, Nat.add_one_le_iff, fillV, zeros1, zeros0, appendD, segV, lvO, goneOf, sliceD, bound, Nat.add_assoc, szL, ldL, setCs0, setCs1, setCs2, setCsA2, setCsA3, ldM, fM0, fM1, szM, zM, plM0, plM1, agM, paM, ldJ, fJ0, fJ1, fJ2, szJ, zJ, plJ0, plJ1, plJ2, agJ, paJ, h1, fillV, e3', hd, hw, h1l]
        refine ⟨by kernel_rfl, by kernel_rfl, ?_⟩
        rw [WL_loop]
        refine WL_count (I := fun i st => st.fr 2 = .ptr 16 0 0 ∧ st.fr 3 = .ptr 80 0 0 ∧ st.fr 4 = .ptr 144 0 0 ∧ st.fr 7 = .ptr 1232 0 0 ∧ st.fr 28 = .int .i64 ((l.length - 1 : Nat) : Int) ∧ st.fr 29 = .int .i64 i ∧ st.H 16 = some (⟨0, 1, 1, [.int .i64 p, (V.list (List.length (l)) (List.map (V.int .i64) (l)))]⟩) ∧ st.H 80 = some (⟨0, 1, 1, [.int .i64 c]⟩) ∧ st.H 144 = some (⟨0, 1, 1, [.int .i64 0, .nils]⟩) ∧ st.H 1232 = some (⟨0, 1, 1, [.int .i64 p, .sl 1169 0 0 (l.length - 1)]⟩) ∧ st.H 1169 = some (⟨0, 2, 1, (tab (l.length - 1) (fun k => if k < i then (rdI l (k + 1) - c * rdI l k) % p else rdI l (k + 1))).map (V.int .i64)⟩) ∧ 1232 < st.nx) (l.length - 1) ?_ ?_ 0 _ (by omega) ?_
        · rintro i st hi ⟨he0, he1, he2, he3, he4, he5, he6, he7, he8, he9, he10, he11⟩ next
          have tl := tab_len (l.length - 1) (fun k => if k < i then (rdI l (k + 1) - c * rdI l k) % p else rdI l (k + 1))
          have tr := tab_rd (g := fun k => if k < i then (rdI l (k + 1) - c * rdI l k) % p else rdI l (k + 1)) hi
          simp only [Nat.lt_irrefl, if_false] at tr
          have ts : (tab (l.length - 1) (fun k => if k < i then (rdI l (k + 1) - c * rdI l k) % p else rdI l (k + 1))).set i ((rdI l (i + 1) - c * rdI l i) % p) = tab (l.length - 1) (fun k => if k < i + 1 then (rdI l (k + 1) - c * rdI l k) % p else rdI l (k + 1)) := by
            rw [tab_set]
            apply tab_ext
            intro k hk
            by_cases h : i = k
            · subst h; simp
            · have : (k < i + 1) ↔ (k < i) := by omega
              simp [h, this]
          have r1 := momB_rd e (k := i) (by omega)
          have r2 := momB_rd e (k := i + 1) (by omega)
          have hm := mul_small hp hc r1
          have w1 : IntKind.i64.wrap (c * rdI l i) = c * rdI l i := IntWalk.i64_in _ (by omega)
          have w2 : IntKind.i64.wrap (rdI l (i + 1) - c * rdI l i) = rdI l (i + 1) - c * rdI l i := IntWalk.i64_in _ (by omega)
          have w3 : IntKind.i64.wrap ((i : Int) + 1) = (i : Int) + 1 := IntWalk.i64_in _ (by omega)
          have c1 : (i : Int) < ((l.length - 1 : Nat) : Int) := by omega
          have hil : i < l.length := by omega
          have c2 : (i : Int) < (l.length : Int) := by omega
          have hmod := run_mod p (rdI l (i + 1) - c * rdI l i) hp
          generalize tab (l.length - 1) (fun k => if k < i then (rdI l (k + 1) - c * rdI l k) % p else rdI l (k + 1)) = A at *
          simp [go_sem, -map_replicate, -map_set, -map_append, -map_reverse, -map_take, -map_drop, -map_tail, -any_map, -all_map, -mapM_map, -map_map, slL, szI, ldI, zI, undL, apL, setI, rdI_get, Nat.add_one_le_iff, fillV, zeros1, zeros0, appendD, segV, lvO, goneOf, sliceD, bound, Nat.add_assoc, szL, ldL, setCs0, setCs1, setCs2, setCsA2, setCsA3, ldM, fM0, fM1, szM, zM, plM0, plM1, agM, paM, ldJ, fJ0, fJ1, fJ2, szJ, zJ, plJ0, plJ1, plJ2, agJ, paJ, he0, he1, he2, he3, he4, he5, he6, he7, he8, he9, he10, c1, c2, hi, hil, tl, tr, w1, w2, w3, run_Mfield, hmod]
          refine ⟨by kernel_rfl, by kernel_rfl, next _ ?_⟩
          simp [upd, row, -map_replicate, -map_set, -map_append, -map_reverse, -map_take, -map_drop, -map_tail, -map_map, he0, he1, he2, he3, he4, he5, he6, he7, he8, he9, he10, ts]
        · rintro st ⟨he0, he1, he2, he3, he4, he5, he6, he7, he8, he9, he10, he11⟩
          have tl := tab_len (l.length - 1) (fun k => if k < l.length - 1 then (rdI l (k + 1) - c * rdI l k) % p else rdI l (k + 1))
          have te : tab (l.length - 1) (fun k => if k < l.length - 1 then (rdI l (k + 1) - c * rdI l k) % p else rdI l (k + 1)) = mulL p l c := by
            unfold mulL
            apply tab_ext
            intro k hk
            simp [hk]
          rw [te] at he10 tl
          simp [go_sem, -map_replicate, -map_set, -map_append, -map_reverse, -map_take, -map_drop, -map_tail, -any_map, -all_map, -mapM_map, -map_map, slL, szI, ldI, zI, undL, apL, setI, rdI_get, Nat.add_one_le_iff, fillV, zeros1, zeros0, appendD, segV, lvO, goneOf, sliceD, bound, Nat.add_assoc, szL, ldL, setCs0, setCs1, setCs2, setCsA2, setCsA3, ldM, fM0, fM1, szM, zM, plM0, plM1, agM, paM, ldJ, fJ0, fJ1, fJ2, szJ, zJ, plJ0, plJ1, plJ2, agJ, paJ, he0, he1, he2, he3, he4, he5, he6, he7, he8, he9, he10]
          simp [mvcgen_simp, -map_replicate, -map_set, -map_append, -map_reverse, -map_take, -map_drop, -map_tail, -any_map, -all_map, -mapM_map, -map_map, Try.f21, mulM, e, e2, e3, tl, he0, he1, he2, he3, he4, he5, he6, he7, he8, he9, he10, szL, ldL, setCs0, setCs1, setCs2, setCsA2, setCsA3, ldM, fM0, fM1, szM, zM, plM0, plM1, agM, paM, ldJ, fJ0, fJ1, fJ2, szJ, zJ, plJ0, plJ1, plJ2, agJ, paJ, ctM, loadD, viewN]
        · refine ⟨rfl, rfl, rfl, rfl, rfl, rfl, rfl, rfl, rfl, rfl, ?_, by simp⟩
          have : tab (l.length - 1) (fun k => if k < 0 then (rdI l (k + 1) - c * rdI l k) % p else rdI l (k + 1)) = l.tail := by
            symm
            apply eq_tab (by simp)
            intro k hk
            simp [rdI_tail]
          rw [this]
          rfl

/-- What the functional makes of the first numbers of a polynomial times a power. -/
def dotP (p : Int) (f l : List Int) (k : Nat) : Nat → Int
  | 0 => 0
  | i + 1 => (dotP p f l k i + rdI f i * rdI l (i + k)) % p
theorem dotP_range {p : Int} (hp : 2 ≤ p ∧ p ≤ 10007) (f l : List Int) (k : Nat) : ∀ i, 0 ≤ dotP p f l k i ∧ dotP p f l k i < p
  | 0 => by unfold dotP; omega
  | i + 1 => mod_small hp _
theorem all_rd {p : Int} {f : List Int} (h : f.all (hasB p) = true) {k : Nat} (hk : k < f.length) : 0 ≤ rdI f k ∧ rdI f k < p :=
  hasB_range (List.all_eq_true.1 h _ (rdI_get hk ▸ List.getElem_mem hk))

theorem run_l02Apply (p : Int) (l f : List Int) (k : Nat) (hm : momB p l = true) (hf : f.all (hasB p) = true) (hk : f.length + k ≤ l.length) :
    runv E0 128 [(V.agg [V.int .i64 (p), (V.list (List.length (l)) (List.map (V.int .i64) (l)))]), (V.list (List.length (f)) (List.map (V.int .i64) (f))), .int .i64 (k : Int)] = some ⟨true, .int .i64 (dotP p f l k f.length), [.agg [.undef, .undef], .undef, .undef]⟩ := by
  have cdk : codeOk Try.f128.ntmps (Try.f128.body.getD .skip) = true := by kernel_rfl
  refine run_of_WL (fn := Try.f128) rfl Try.func128 rfl ⟨by simp [Try.ntmps128], by simp [wideA, ints], cdk, by simp [Try.f128]⟩ ?_
  have hp := momB_prime hm
  have hl := momB_len hm
  simp [go_sem, -map_replicate, -map_set, -map_append, -map_reverse, -map_take, -map_drop, -map_tail, -any_map, -all_map, -mapM_map, -map_map, slL, szI, ldI, zI, undL, apL, setI, rdI_get, Nat.add_one_le_iff, fillV, zeros1, zeros0, appendD, segV, lvO, goneOf, sliceD, bound, Nat.add_assoc, szL, ldL, setCs0, setCs1, setCs2, setCsA2, setCsA3, ldM, fM0, fM1, szM, zM, plM0, plM1, agM, paM, ldJ, fJ0, fJ1, fJ2, szJ, zJ, plJ0, plJ1, plJ2, agJ, paJ]
  rw [WL_loop]
  refine WL_count (I := fun i st => st.fr 1 = (V.list (List.length (f)) (List.map (V.int .i64) (f))) ∧ st.fr 2 = .int .i64 k ∧ st.fr 3 = .ptr 24 0 0 ∧ st.fr 7 = .int .i64 (dotP p f l k i) ∧ st.fr 8 = .int .i64 i ∧ st.H 24 = some (⟨0, 1, 1, [.int .i64 p, (V.list (List.length (l)) (List.map (V.int .i64) (l)))]⟩)) f.length ?_ ?_ 0 _ (by omega) ?_
  · rintro i st hi ⟨he0, he1, he2, he3, he4, he5⟩ next
    have r1 := all_rd hf hi
    have hik : i + k < l.length := by omega
    have r2 := momB_rd hm hik
    have r3 := dotP_range hp f l k i
    have hmm := mul_small hp r1 r2
    have hpn : ¬ p = 0 := by omega
    have w0 : IntKind.i64.wrap ((i : Int) + (k : Int)) = ((i + k : Nat) : Int) := by rw [IntWalk.i64_in _ (by omega)]; omega
    have w1 : IntKind.i64.wrap (rdI f i * rdI l (i + k)) = rdI f i * rdI l (i + k) := IntWalk.i64_in _ (by omega)
    have w2 : IntKind.i64.wrap (dotP p f l k i + rdI f i * rdI l (i + k)) = dotP p f l k i + rdI f i * rdI l (i + k) := IntWalk.i64_in _ (by omega)
    have w3 : IntKind.i64.wrap ((i : Int) + 1) = (i : Int) + 1 := IntWalk.i64_in _ (by omega)
    have ht : (dotP p f l k i + rdI f i * rdI l (i + k)).tmod p = dotP p f l k (i + 1) := by rw [Int.tmod_eq_emod_of_nonneg (by omega)]; rfl
    generalize hz : ((i + k : Nat) : Int) = z at w0
    have hz1 : z.toNat = i + k := by omega
    have hz2 : 0 ≤ z := by omega
    have hz3 : z < (l.length : Int) := by omega
    simp [go_sem, -map_replicate, -map_set, -map_append, -map_reverse, -map_take, -map_drop, -map_tail, -any_map, -all_map, -mapM_map, -map_map, slL, szI, ldI, zI, undL, apL, setI, rdI_get, Nat.add_one_le_iff, fillV, zeros1, zeros0, appendD, segV, lvO, goneOf, sliceD, bound, Nat.add_assoc, szL, ldL, setCs0, setCs1, setCs2, setCsA2, setCsA3, ldM, fM0, fM1, szM, zM, plM0, plM1, agM, paM, ldJ, fJ0, fJ1, fJ2, szJ, zJ, plJ0, plJ1, plJ2, agJ, paJ, he0, he1, he2, he3, he4, he5, hi, hik, hz1, hz2, hz3, hpn, w0, w1, w2, w3, ht]
    refine ⟨by kernel_rfl, by kernel_rfl, next _ ?_⟩
    simp [upd, he0, he1, he2, he3, he4, he5]
  · rintro st ⟨he0, he1, he2, he3, he4, he5⟩
    simp [go_sem, -map_replicate, -map_set, -map_append, -map_reverse, -map_take, -map_drop, -map_tail, -any_map, -all_map, -mapM_map, -map_map, slL, szI, ldI, zI, undL, apL, setI, rdI_get, Nat.add_one_le_iff, fillV, zeros1, zeros0, appendD, segV, lvO, goneOf, sliceD, bound, Nat.add_assoc, szL, ldL, setCs0, setCs1, setCs2, setCsA2, setCsA3, ldM, fM0, fM1, szM, zM, plM0, plM1, agM, paM, ldJ, fJ0, fJ1, fJ2, szJ, zJ, plJ0, plJ1, plJ2, agJ, paJ, he0, he1, he2, he3, he4, he5]
    simp [mvcgen_simp, -map_replicate, -map_set, -map_append, -map_reverse, -map_take, -map_drop, -map_tail, -any_map, -all_map, -mapM_map, -map_map, Try.f128]
  · refine ⟨rfl, rfl, rfl, rfl, rfl, rfl⟩

theorem mulDot (p c : Int) (l : List Int) (hp : 2 ≤ p ∧ p ≤ 10007) (k : Nat) : dotP p [(-c) % p, 1] l k 2 = (rdI l (k + 1) - c * rdI l k) % p := by
  show ((0 + rdI [(-c) % p, 1] 0 * rdI l (0 + k)) % p + rdI [(-c) % p, 1] 1 * rdI l (1 + k)) % p = _
  have e0 : rdI [(-c) % p, 1] 0 = (-c) % p := rfl
  have e1 : rdI [(-c) % p, 1] 1 = 1 := rfl
  rw [e0, e1, Int.zero_add, Nat.zero_add, Nat.add_comm 1 k, Int.one_mul, Int.emod_add_emod, Int.add_comm, Int.add_emod, Int.mul_emod, Int.emod_emod_of_dvd _ (Int.dvd_refl p), ← Int.mul_emod, ← Int.add_emod]
  congr 1
  rw [Int.neg_mul]; omega
end Go.Proofs.Ytacfkfdnncgjcaa.Ev

set_option linter.unusedSimpArgs false
set_option linter.unusedVariables false
namespace Go.Proofs.Ytacfkfdnncgjcaa.Ev
open Go Go.Proofs
open List (map_replicate map_set map_append map_reverse map_take map_drop map_tail any_map all_map mapM_map map_map)
set_option maxRecDepth 4000
set_option maxHeartbeats 4000000

/-! ### Powers -/
theorem pow_mod_congr {p a b : Int} (h : a % p = b % p) : ∀ n : Nat, a ^ n % p = b ^ n % p
  | 0 => by rw [Int.pow_zero, Int.pow_zero]
  | n + 1 => by rw [Int.pow_succ, Int.pow_succ, Int.mul_emod, pow_mod_congr h n, h, ← Int.mul_emod]
theorem emod_emod' (a p : Int) : a % p % p = a % p := Int.emod_emod_of_dvd _ (Int.dvd_refl p)
theorem mul_mod_congr {p a b c d : Int} (h : a % p = b % p) (k : c % p = d % p) : a * c % p = b * d % p := by rw [Int.mul_emod, h, k, ← Int.mul_emod]
theorem add_mod_congr {p a b c d : Int} (h : a % p = b % p) (k : c % p = d % p) : (a + c) % p = (b + d) % p := by rw [Int.add_emod, h, k, ← Int.add_emod]
theorem sq_pow (x : Int) (m : Nat) : (x * x) ^ m = x ^ (2 * m) := by
  rw [Int.pow_mul]; congr 1; rw [show (2 : Nat) = 1 + 1 from rfl, Int.pow_succ, Int.pow_succ]; simp
theorem pow_even (p o x : Int) (m : Nat) : o * (x * x % p) ^ m % p = o * x ^ (2 * m) % p := by
  rw [← sq_pow]; exact mul_mod_congr rfl (pow_mod_congr (emod_emod' _ _) m)
theorem pow_odd (p o x : Int) (m : Nat) : (o * x % p) * (x * x % p) ^ m % p = o * x ^ (2 * m + 1) % p := by
  rw [pow_even, Int.pow_succ, Int.mul_comm (x ^ (2 * m)), ← Int.mul_assoc]
  exact mul_mod_congr (emod_emod' _ _) rfl

theorem run_power (p x : Int) (n : Nat) (hp : 2 ≤ p ∧ p ≤ 10007) (hx : 0 ≤ x ∧ x < p) (hn : n ≤ 9223372036854775807) :
    runv E0 152 [.int .i64 p, .int .i64 x, .int .i64 (n : Int)] = some ⟨true, .int .i64 (x ^ n % p), [.undef, .undef, .undef]⟩ := by
  have cdk : codeOk Try.f152.ntmps (Try.f152.body.getD .skip) = true := by kernel_rfl
  refine run_of_WL (fn := Try.f152) rfl Try.func152 rfl ⟨by simp [Try.ntmps152], by simp [wideA, ints], cdk, by simp [Try.f152]⟩ ?_
  have h1 := run_mod p 1 hp
  rw [Int.emod_eq_of_lt (by omega) (by omega)] at h1
  simp [go_sem, -map_replicate, -map_set, -map_append, -map_reverse, -map_take, -map_drop, -map_tail, -any_map, -all_map, -mapM_map, -map_map, slL, szI, ldI, zI, undL, apL, setI, rdI_get, Nat.add_one_le_iff, fillV, zeros1, zeros0, appendD, segV, lvO, goneOf, sliceD, bound, Nat.add_assoc, h1]
  rw [WL_loop]
  refine WL_rounds (I := fun j st => ∃ (y o : Int), st.fr 0 = .int .i64 p ∧ st.fr 1 = .int .i64 y ∧ st.fr 2 = .int .i64 j ∧ st.fr 7 = .int .i64 o ∧ 0 ≤ y ∧ y < p ∧ 0 ≤ o ∧ o < p ∧ o * y ^ j % p = x ^ n % p ∧ j ≤ n) ?_ n _ ?_
  · rintro j st ⟨y, o, he0, he1, he2, he3, he4, he5, he6, he7, he8, he9⟩ next
    have hy := mul_small hp (show 0 ≤ y ∧ y < p by omega) (show 0 ≤ y ∧ y < p by omega)
    have ho := mul_small hp (show 0 ≤ o ∧ o < p by omega) (show 0 ≤ y ∧ y < p by omega)
    have m1 := run_mul p y y hp (IntWalk.i64_in _ (by omega))
    have m2 := run_mul p o y hp (IntWalk.i64_in _ (by omega))
    have q1 := mod_small hp (y * y)
    have q2 := mod_small hp (o * y)
    have w1 : IntKind.i64.wrap ((j : Int) / 2) = ((j / 2 : Nat) : Int) := by rw [IntWalk.i64_in _ (by omega)]; omega
    have d1 : (j : Int).tdiv 2 = (j : Int) / 2 := Int.tdiv_eq_ediv_of_nonneg (by omega)
    have d2 : (j : Int).tmod 2 = (j : Int) % 2 := Int.tmod_eq_emod_of_nonneg (by omega)
    by_cases hj : 0 < j
    · by_cases hodd : j % 2 = 1
      · have hodd' : (j : Int) % 2 = 1 := by omega
        simp [go_sem, -map_replicate, -map_set, -map_append, -map_reverse, -map_take, -map_drop, -map_tail, -any_map, -all_map, -mapM_map, -map_map, slL, szI, ldI, zI, undL, apL, setI, rdI_get, Nat.add_one_le_iff, fillV, zeros1, zeros0, appendD, segV, lvO, goneOf, sliceD, bound, Nat.add_assoc, he0, he1, he2, he3, hj, d1, d2, hodd', m1, m2, w1]
        refine next (j / 2) _ (by omega) ⟨y * y % p, o * y % p, ?_⟩
        simp [upd, he0, he1, he2, he3, q1, q2]
        refine ⟨?_, by omega⟩
        rw [pow_odd, show 2 * (j / 2) + 1 = j by omega]
        exact he8
      · have hodd' : ¬ (j : Int) % 2 = 1 := by omega
        simp [go_sem, -map_replicate, -map_set, -map_append, -map_reverse, -map_take, -map_drop, -map_tail, -any_map, -all_map, -mapM_map, -map_map, slL, szI, ldI, zI, undL, apL, setI, rdI_get, Nat.add_one_le_iff, fillV, zeros1, zeros0, appendD, segV, lvO, goneOf, sliceD, bound, Nat.add_assoc, he0, he1, he2, he3, hj, d1, d2, hodd', m1, m2, w1]
        refine next (j / 2) _ (by omega) ⟨y * y % p, o, ?_⟩
        simp [upd, he0, he1, he2, he3, q1, he6, he7]
        refine ⟨?_, by omega⟩
        rw [pow_even, show 2 * (j / 2) = j by omega]
        exact he8
    · have : j = 0 := by omega
      subst this
      have ho' : o = x ^ n % p := by rw [← he8, Int.pow_zero, Int.mul_one, Int.emod_eq_of_lt he6 he7]
      simp [go_sem, -map_replicate, -map_set, -map_append, -map_reverse, -map_take, -map_drop, -map_tail, -any_map, -all_map, -mapM_map, -map_map, slL, szI, ldI, zI, undL, apL, setI, rdI_get, Nat.add_one_le_iff, fillV, zeros1, zeros0, appendD, segV, lvO, goneOf, sliceD, bound, Nat.add_assoc, he0, he1, he2, he3]
      simp [mvcgen_simp, -map_replicate, -map_set, -map_append, -map_reverse, -map_take, -map_drop, -map_tail, -any_map, -all_map, -mapM_map, -map_map, Try.f152, ho']
  · refine ⟨x, 1, rfl, rfl, rfl, rfl, hx.1, hx.2, by omega, by omega, by rw [Int.one_mul], Nat.le_refl _⟩

/-! ### A list that is written over -/
def inpl (n i : Nat) (f g : Nat → Int) : List Int := tab n fun k => if k < i then f k else g k
theorem inpl_len (n i : Nat) (f g : Nat → Int) : (inpl n i f g).length = n := tab_len _ _
theorem inpl_rd {n i : Nat} {f g : Nat → Int} (h : i < n) : rdI (inpl n i f g) i = g i := by
  unfold inpl; rw [tab_rd h]; simp
theorem inpl_set (n i : Nat) (f g : Nat → Int) : (inpl n i f g).set i (f i) = inpl n (i + 1) f g := by
  unfold inpl
  rw [tab_set]
  apply tab_ext
  intro k hk
  by_cases h : i = k
  · subst h; simp
  · have : (k < i + 1) ↔ (k < i) := by omega
    simp [h, this]
theorem inpl_zero (n : Nat) (f g : Nat → Int) : inpl n 0 f g = tab n g := tab_ext fun k hk => by simp
theorem inpl_full (n : Nat) (f g : Nat → Int) : inpl n n f g = tab n f := tab_ext fun k hk => by simp [hk]

/-! ### AddMass -/
def massL (p : Int) (l : List Int) (c w : Int) : List Int := tab l.length fun k => (rdI l k + w * (c ^ k % p)) % p
def massM (p : Int) (l : List Int) (c w : Int) : Int × List Int × Int :=
  if momB p l then (if hasB p c && hasB p w then (p, massL p l c w, 0) else (0, [], 2)) else (0, [], 1)
theorem massM_len (p : Int) (l : List Int) (c w : Int) (hl : l.length ≤ 1048576) : (massM p l c w).2.1.length ≤ 1048576 := by
  unfold massM; (repeat' split) <;> simp [massL, tab_len] <;> omega

end Go.Proofs.Ytacfkfdnncgjcaa.Ev

set_option linter.unusedSimpArgs false
set_option linter.unusedVariables false
namespace Go.Proofs.Ytacfkfdnncgjcaa.Ev
open Go Go.Proofs
open List (map_replicate map_set map_append map_reverse map_take map_drop map_tail any_map all_map mapM_map map_map)
set_option maxRecDepth 4000
set_option maxHeartbeats 4000000

/-- The inverse of a number, as a power. -/
def invP (p x : Int) : Int := x ^ (p - 2).toNat % p
def divP (p x y : Int) : Int := x * invP p y % p
theorem invP_range {p : Int} (hp : 2 ≤ p ∧ p ≤ 10007) (x : Int) : 0 ≤ invP p x ∧ invP p x < p := mod_small hp _
theorem divP_range {p : Int} (hp : 2 ≤ p ∧ p ≤ 10007) (x y : Int) : 0 ≤ divP p x y ∧ divP p x y < p := mod_small hp _

theorem run_inverse (p x : Int) (hp : 2 ≤ p ∧ p ≤ 10007) (hx : 0 ≤ x ∧ x < p) :
    runv E0 134 [.int .i64 p, .int .i64 x] = some ⟨true, .int .i64 (invP p x), [.undef, .undef]⟩ := by
  have cdk : codeOk Try.f134.ntmps (Try.f134.body.getD .skip) = true := by kernel_rfl
  refine run_of_WL (fn := Try.f134) rfl Try.func134 rfl ⟨by simp [Try.ntmps134], by simp [wideA, ints], cdk, by simp [Try.f134]⟩ ?_
  have w : IntKind.i64.wrap (p - 2) = p - 2 := IntWalk.i64_in _ (by omega)
  have h := run_power p x (p - 2).toNat hp hx (by omega)
  rw [show (((p - 2).toNat : Nat) : Int) = p - 2 by omega] at h
  simp [go_sem, -map_replicate, -map_set, -map_append, -map_reverse, -map_take, -map_drop, -map_tail, -any_map, -all_map, -mapM_map, -map_map, slL, szI, ldI, zI, undL, apL, setI, rdI_get, Nat.add_one_le_iff, fillV, zeros1, zeros0, appendD, segV, lvO, goneOf, sliceD, bound, Nat.add_assoc, w, h]
  simp [mvcgen_simp, -map_replicate, -map_set, -map_append, -map_reverse, -map_take, -map_drop, -map_tail, -any_map, -all_map, -mapM_map, -map_map, Try.f134, invP]
theorem run_div (p x y : Int) (hp : 2 ≤ p ∧ p ≤ 10007) (hx : 0 ≤ x ∧ x < p) (hy : 0 ≤ y ∧ y < p) :
    runv E0 109 [.int .i64 p, .int .i64 x, .int .i64 y] = some ⟨true, .int .i64 (divP p x y), [.undef, .undef, .undef]⟩ := by
  have cdk : codeOk Try.f109.ntmps (Try.f109.body.getD .skip) = true := by kernel_rfl
  refine run_of_WL (fn := Try.f109) rfl Try.func109 rfl ⟨by simp [Try.ntmps109], by simp [wideA, ints], cdk, by simp [Try.f109]⟩ ?_
  have h := run_inverse p y hp hy
  have hi := invP_range hp y
  have hm := mul_small hp hx hi
  have h2 := run_mul p x (invP p y) hp (IntWalk.i64_in _ (by omega))
  simp [go_sem, -map_replicate, -map_set, -map_append, -map_reverse, -map_take, -map_drop, -map_tail, -any_map, -all_map, -mapM_map, -map_map, slL, szI, ldI, zI, undL, apL, setI, rdI_get, Nat.add_one_le_iff, fillV, zeros1, zeros0, appendD, segV, lvO, goneOf, sliceD, bound, Nat.add_assoc, h, h2]
  simp [mvcgen_simp, -map_replicate, -map_set, -map_append, -map_reverse, -map_take, -map_drop, -map_tail, -any_map, -all_map, -mapM_map, -map_map, Try.f109, divP]

theorem run_l01Power (p x : Int) (n : Nat) (hp : 2 ≤ p ∧ p ≤ 10007) (hn : n ≤ 9223372036854775807) :
    runv E0 129 [.int .i64 p, .int .i64 x, .int .i64 (n : Int)] = some ⟨true, .int .i64 (x ^ n % p), [.undef, .undef, .undef]⟩ := by
  have cdk : codeOk Try.f129.ntmps (Try.f129.body.getD .skip) = true := by kernel_rfl
  refine run_of_WL (fn := Try.f129) rfl Try.func129 rfl ⟨by simp [Try.ntmps129], by simp [wideA, ints], cdk, by simp [Try.f129]⟩ ?_
  have h1 := run_l01Mod p x hp
  have hx := mod_small hp x
  have hpn : ¬ p = 0 := by omega
  simp [go_sem, -map_replicate, -map_set, -map_append, -map_reverse, -map_take, -map_drop, -map_tail, -any_map, -all_map, -mapM_map, -map_map, slL, szI, ldI, zI, undL, apL, setI, rdI_get, Nat.add_one_le_iff, fillV, zeros1, zeros0, appendD, segV, lvO, goneOf, sliceD, bound, Nat.add_assoc, h1]
  rw [WL_loop]
  refine WL_rounds (I := fun j st => ∃ (y o : Int), st.fr 0 = .int .i64 p ∧ st.fr 8 = .int .i64 y ∧ st.fr 2 = .int .i64 j ∧ st.fr 7 = .int .i64 o ∧ 0 ≤ y ∧ y < p ∧ 0 ≤ o ∧ o < p ∧ o * y ^ j % p = x ^ n % p ∧ j ≤ n) ?_ n _ ?_
  · rintro j st ⟨y, o, he0, he1, he2, he3, he4, he5, he6, he7, he8, he9⟩ next
    have hy := mul_small hp (show 0 ≤ y ∧ y < p by omega) (show 0 ≤ y ∧ y < p by omega)
    have ho := mul_small hp (show 0 ≤ o ∧ o < p by omega) (show 0 ≤ y ∧ y < p by omega)
    have q1 := mod_small hp (y * y)
    have q2 := mod_small hp (o * y)
    have w1 : IntKind.i64.wrap ((j : Int) / 2) = ((j / 2 : Nat) : Int) := by rw [IntWalk.i64_in _ (by omega)]; omega
    have w2 : IntKind.i64.wrap (y * y) = y * y := IntWalk.i64_in _ (by omega)
    have w3 : IntKind.i64.wrap (o * y) = o * y := IntWalk.i64_in _ (by omega)
    have t1 : (y * y).tmod p = y * y % p := Int.tmod_eq_emod_of_nonneg hy.1
    have t2 : (o * y).tmod p = o * y % p := Int.tmod_eq_emod_of_nonneg ho.1
    have d1 : (j : Int).tdiv 2 = (j : Int) / 2 := Int.tdiv_eq_ediv_of_nonneg (by omega)
    have d2 : (j : Int).tmod 2 = (j : Int) % 2 := Int.tmod_eq_emod_of_nonneg (by omega)
    by_cases hj : 0 < j
    · by_cases hodd : j % 2 = 1
      · have hodd' : (j : Int) % 2 = 1 := by omega
        simp [go_sem, -map_replicate, -map_set, -map_append, -map_reverse, -map_take, -map_drop, -map_tail, -any_map, -all_map, -mapM_map, -map_map, slL, szI, ldI, zI, undL, apL, setI, rdI_get, Nat.add_one_le_iff, fillV, zeros1, zeros0, appendD, segV, lvO, goneOf, sliceD, bound, Nat.add_assoc, he0, he1, he2, he3, hj, d1, d2, hodd', w1, w2, w3, t1, t2, hpn]
        refine next (j / 2) _ (by omega) ⟨y * y % p, o * y % p, ?_⟩
        simp [upd, he0, he1, he2, he3, q1, q2]
        refine ⟨?_, by omega⟩
        rw [pow_odd, show 2 * (j / 2) + 1 = j by omega]
        exact he8
      · have hodd' : ¬ (j : Int) % 2 = 1 := by omega
        simp [go_sem, -map_replicate, -map_set, -map_append, -map_reverse, -map_take, -map_drop, -map_tail, -any_map, -all_map, -mapM_map, -map_map, slL, szI, ldI, zI, undL, apL, setI, rdI_get, Nat.add_one_le_iff, fillV, zeros1, zeros0, appendD, segV, lvO, goneOf, sliceD, bound, Nat.add_assoc, he0, he1, he2, he3, hj, d1, d2, hodd', w1, w2, t1, hpn]
        refine next (j / 2) _ (by omega) ⟨y * y % p, o, ?_⟩
        simp [upd, he0, he1, he2, he3, q1, he6, he7]
        refine ⟨?_, by omega⟩
        rw [pow_even, show 2 * (j / 2) = j by omega]
        exact he8
    · have : j = 0 := by omega
      subst this
      have ho' : o = x ^ n % p := by rw [← he8, Int.pow_zero, Int.mul_one, Int.emod_eq_of_lt he6 he7]
      have ht : o.tmod p = x ^ n % p := by rw [Int.tmod_eq_emod_of_nonneg he6, Int.emod_eq_of_lt he6 he7, ho']
      simp [go_sem, -map_replicate, -map_set, -map_append, -map_reverse, -map_take, -map_drop, -map_tail, -any_map, -all_map, -mapM_map, -map_map, slL, szI, ldI, zI, undL, apL, setI, rdI_get, Nat.add_one_le_iff, fillV, zeros1, zeros0, appendD, segV, lvO, goneOf, sliceD, bound, Nat.add_assoc, he0, he1, he2, he3, hpn, ht]
      simp [mvcgen_simp, -map_replicate, -map_set, -map_append, -map_reverse, -map_take, -map_drop, -map_tail, -any_map, -all_map, -mapM_map, -map_map, Try.f129]
  · refine ⟨x % p, 1, rfl, rfl, rfl, rfl, hx.1, hx.2, by omega, by omega, ?_, Nat.le_refl _⟩
    rw [Int.one_mul]
    exact pow_mod_congr (emod_emod' _ _) n
theorem run_l01Inverse (p x : Int) (hp : 2 ≤ p ∧ p ≤ 10007) :
    runv E0 59 [.int .i64 p, .int .i64 x] = some ⟨true, .int .i64 (invP p x), [.undef, .undef]⟩ := by
  have cdk : codeOk Try.f59.ntmps (Try.f59.body.getD .skip) = true := by kernel_rfl
  refine run_of_WL (fn := Try.f59) rfl Try.func59 rfl ⟨by simp [Try.ntmps59], by simp [wideA, ints], cdk, by simp [Try.f59]⟩ ?_
  have w : IntKind.i64.wrap (p - 2) = p - 2 := IntWalk.i64_in _ (by omega)
  have h := run_l01Power p x (p - 2).toNat hp (by omega)
  rw [show (((p - 2).toNat : Nat) : Int) = p - 2 by omega] at h
  simp [go_sem, -map_replicate, -map_set, -map_append, -map_reverse, -map_take, -map_drop, -map_tail, -any_map, -all_map, -mapM_map, -map_map, slL, szI, ldI, zI, undL, apL, setI, rdI_get, Nat.add_one_le_iff, fillV, zeros1, zeros0, appendD, segV, lvO, goneOf, sliceD, bound, Nat.add_assoc, w, h]
  simp [mvcgen_simp, -map_replicate, -map_set, -map_append, -map_reverse, -map_take, -map_drop, -map_tail, -any_map, -all_map, -mapM_map, -map_map, Try.f59, invP]

/-! ### Codes of data -/
/-- What a test of numbers from low on comes to for data. -/
def jcode (p : Int) (a b : List Int) (r : Bool) : Int := if jacB p a b then (if r then 0 else 2) else 1
end Go.Proofs.Ytacfkfdnncgjcaa.Ev
