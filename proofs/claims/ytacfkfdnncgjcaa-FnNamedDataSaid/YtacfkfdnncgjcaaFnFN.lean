/- Determinants modulo p: what the elimination computes. Conditions: none. -/
/- Determinants modulo p: the program's run. Conditions: none. -/
/- Hankel determinants and the order: the program's run. Conditions: none. -/
import Derived.Test.YtacfkfdnncgjcaaFnFA
import Derived.Test.YtacfkfdnncgjcaaFnFE
import Derived.Test.YtacfkfdnncgjcaaFnFJ
set_option linter.unusedSimpArgs false
set_option linter.unusedVariables false
namespace Go.Proofs.Ytacfkfdnncgjcaa.Ev
open Go Go.Proofs
open List (map_replicate map_set map_append map_reverse map_take map_drop map_tail any_map all_map mapM_map map_map)
set_option maxRecDepth 4000
set_option maxHeartbeats 4000000
attribute [local bitvec_to_nat] slL szI ldI zI undL apL setI rdI_get Nat.add_one_le_iff fillV zeros1 zeros0 appendD segV lvO goneOf sliceD bound Nat.add_assoc szL ldL setCs0 setCs1 setCs2 setCsA2 setCsA3 ldM fM0 fM1 szM zM plM0 plM1 agM paM ldJ fJ0 fJ1 fJ2 szJ zJ plJ0 plJ1 plJ2 agJ paJ

/-- The first row from n - d on whose number in column c is not 0; n if there is none. -/
def pvF (M : Nat → Nat → Int) (c n : Nat) : Nat → Nat
  | 0 => n
  | d + 1 => if M (n - (d + 1)) c = 0 then pvF M c n d else n - (d + 1)
theorem pvF_le (M : Nat → Nat → Int) (c n : Nat) : ∀ d, d ≤ n → n - d ≤ pvF M c n d ∧ pvF M c n d ≤ n
  | 0, _ => by simp [pvF]
  | d + 1, h => by
    unfold pvF
    split
    · have := pvF_le M c n d (by omega); omega
    · omega
def swM (M : Nat → Nat → Int) (c b : Nat) : Nat → Nat → Int := fun i => if i = c then M b else if i = b then M c else M i
def elM (p : Int) (M : Nat → Nat → Int) (c : Nat) : Nat → Nat → Int := fun i k => if c < i then (M i k - ((M i c * invP p (M c c)) % p) * M c k) % p else M i k
/-- The determinant from column n - d on. -/
def dtF (p : Int) (n : Nat) : Nat → (Nat → Nat → Int) → Int → Int
  | 0, _, out => out
  | d + 1, M, out => let c := n - (d + 1); let b := pvF M c n (d + 1)
    if b = n then 0 else dtF p n d (elM p (swM M c b) c) ((if b = c then out else (-out) % p) * M b c % p)
def rngM (p : Int) (n : Nat) (M : Nat → Nat → Int) : Prop := ∀ i k, i < n → k < n → 0 ≤ M i k ∧ M i k < p
theorem swM_rng {p : Int} {n c b : Nat} {M : Nat → Nat → Int} (h : rngM p n M) (hc : c < n) (hb : b < n) : rngM p n (swM M c b) := fun i k hi hk => by
  unfold swM
  split
  · exact h b k hb hk
  · split
    · exact h c k hc hk
    · exact h i k hi hk
theorem elM_rng {p : Int} (hp : 2 ≤ p ∧ p ≤ 10007) {n c : Nat} {M : Nat → Nat → Int} (h : rngM p n M) : rngM p n (elM p M c) := fun i k hi hk => by
  unfold elM
  split
  · exact mod_small hp _
  · exact h i k hi hk
theorem dtF_rng {p : Int} (hp : 2 ≤ p ∧ p ≤ 10007) (n : Nat) : ∀ (d : Nat) (M : Nat → Nat → Int) (out : Int), 0 ≤ out ∧ out < p → 0 ≤ dtF p n d M out ∧ dtF p n d M out < p
  | 0, _, out, h => h
  | d + 1, M, out, h => by
    unfold dtF
    simp only
    split
    · omega
    · exact dtF_rng hp n d _ _ (mod_small hp _)
/-- Where no pivot is 0 the elimination goes straight on. -/
theorem dtF_hank {p : Int} {a b : List Int} (hj : jacB p a b = true) (n : Nat) (hn : n ≤ a.length) (hE : ∀ c i k, c < a.length → (Rk p a b c i k % p - ((Rk p a b c i c % p * invP p (Rk p a b c c c % p)) % p) * (Rk p a b c c k % p)) % p = Rk p a b (c + 1) i k % p)
    (hP : ∀ c, c < a.length → Rk p a b c c c % p = nrm p b c) (hU : ∀ c, c < a.length → nrm p b c ≠ 0) :
    ∀ (d : Nat) (M : Nat → Nat → Int) (out : Int), d ≤ n → (∀ i k, i < n → k < n → M i k = Rk p a b (min (n - d) i) i k % p) → ∃ r : Nat → Int, (r 0 = out ∧ ∀ j, r (j + 1) = r j * nrm p b (n - d + j) % p) ∧ dtF p n d M out = r d
  | 0, M, out, _, _ => ⟨fun j => Nat.rec out (fun j x => x * nrm p b (n - 0 + j) % p) j, ⟨rfl, fun _ => rfl⟩, rfl⟩
  | d + 1, M, out, hd, hM => by
    have c1 : M (n - (d + 1)) (n - (d + 1)) = nrm p b (n - (d + 1)) := by
      rw [hM _ _ (by omega) (by omega), Nat.min_self, hP _ (by omega)]
    have u := hU (n - (d + 1)) (by omega)
    have hb : pvF M (n - (d + 1)) n (d + 1) = n - (d + 1) := by
      unfold pvF
      rw [c1, if_neg u]
    have hs : swM M (n - (d + 1)) (n - (d + 1)) = M := by
      funext i
      unfold swM
      split
      · rename_i h; rw [h]
      · rfl
    obtain ⟨r, ⟨r0, rS⟩, hr⟩ := dtF_hank hj n hn hE hP hU d (elM p M (n - (d + 1))) (out * nrm p b (n - (d + 1)) % p) (by omega) (fun i k hi hk => by
      unfold elM
      by_cases h : n - (d + 1) < i
      · rw [if_pos h, hM i k hi hk, hM i _ hi (by omega), hM _ _ (by omega) (by omega), hM _ k (by omega) hk, Nat.min_self, Nat.min_eq_left (by omega), hE _ _ _ (by omega), Nat.min_eq_left (by omega), show n - (d + 1) + 1 = n - d by omega]
      · rw [if_neg h, hM i k hi hk, Nat.min_eq_right (by omega), Nat.min_eq_right (by omega)])
    refine ⟨fun j => Nat.casesOn j out r, ⟨rfl, fun j => ?_⟩, ?_⟩
    · cases j with
      | zero => show r 0 = _; rw [r0]; rfl
      | succ j => show r (j + 1) = _; rw [rS j, show n - d + j = n - (d + 1) + (j + 1) by omega]
    · rw [dtF]
      simp only [hb, hs, if_true, c1]
      rw [if_neg (by omega), hr]
end Go.Proofs.Ytacfkfdnncgjcaa.Ev

set_option linter.unusedSimpArgs false
set_option linter.unusedVariables false
namespace Go.Proofs.Ytacfkfdnncgjcaa.Ev
open Go Go.Proofs
open List (map_replicate map_set map_append map_reverse map_take map_drop map_tail any_map all_map mapM_map map_map)
set_option maxRecDepth 4000
set_option maxHeartbeats 4000000
attribute [local bitvec_to_nat] slL szI ldI zI undL apL setI rdI_get Nat.add_one_le_iff fillV zeros1 zeros0 appendD segV lvO goneOf sliceD bound Nat.add_assoc szL ldL setCs0 setCs1 setCs2 setCsA2 setCsA3 ldM fM0 fM1 szM zM plM0 plM1 agM paM ldJ fJ0 fJ1 fJ2 szJ zJ plJ0 plJ1 plJ2 agJ paJ

/-! ### Rows as references -/
def cellsOf (n : Nat) (f : Nat → V) : List V := (List.range n).map f
theorem cells_len (n : Nat) (f : Nat → V) : (cellsOf n f).length = n := by simp [cellsOf]
theorem cells_get {n i : Nat} (f : Nat → V) (h : i < n) : (cellsOf n f)[i]? = some (f i) := by simp [cellsOf, h]
theorem cells_ix {n i : Nat} (f : Nat → V) (h : i < (cellsOf n f).length) : (cellsOf n f)[i] = f i := by simp [cellsOf]
theorem cells_congr {n : Nat} {f g : Nat → V} (h : ∀ i, i < n → f i = g i) : cellsOf n f = cellsOf n g := List.map_congr_left fun i hi => h i (List.mem_range.1 hi)
theorem cells_set {n i : Nat} (f : Nat → V) (v : V) (h : i < n) : setCs (cellsOf n f) i [v] = cellsOf n (upd f i v) := by
  unfold setCs
  apply List.ext_getElem?
  intro k
  by_cases hk : k < n
  · rw [cells_get _ hk]
    rcases Nat.lt_trichotomy k i with c | c | c
    · rw [List.getElem?_append_left (by simp [cells_len]; omega), List.getElem?_append_left (by simp [cells_len]; omega), List.getElem?_take, if_pos c, cells_get _ hk, upd_ne _ _ _ _ (by omega)]
    · subst c
      rw [List.getElem?_append_left (by simp [cells_len]; omega), List.getElem?_append_right (by rw [List.length_take, cells_len]; omega)]
      simp [cells_len, Nat.min_eq_left (Nat.le_of_lt hk), upd]
    · rw [List.getElem?_append_right (by simp [cells_len]; omega), List.getElem?_drop]
      simp only [List.length_append, List.length_take, cells_len, List.length_cons, List.length_nil, Nat.min_eq_left (Nat.le_of_lt h)]
      rw [show i + (0 + 1) + (k - (i + (0 + 1))) = k by omega, cells_get _ hk, upd_ne _ _ _ _ (by omega)]
  · rw [List.getElem?_eq_none (by simp [cells_len]; omega), List.getElem?_eq_none (by simp [cells_len]; omega)]
theorem zeros_nils (n : Nat) : zerosV n [V.nils] = cellsOf n fun _ => .nils := by
  unfold zerosV cellsOf
  rw [List.length_singleton, Nat.mul_one]
  exact List.map_congr_left fun i _ => by rw [Nat.mod_one]; rfl
def rowOb (n : Nat) (r : Nat → Int) : Ob := ⟨0, 2, 1, (tab n r).map (V.int .i64)⟩
def refC (n : Nat) (ids : Nat → Nat) : Nat → V := fun j => .sl (ids j) 0 0 n
structure RowsAt (H : Nat → Option Ob) (nx W n : Nat) (ids : Nat → Nat) (N : Nat → Nat → Int) : Prop where
  hW : H W = some ⟨0, 2, 1, cellsOf n (refC n ids)⟩
  row : ∀ j, j < n → H (ids j) = some (rowOb n (N j))
  lt : ∀ j, j < n → ids j < nx
  ne : ∀ j, j < n → ids j ≠ W
  inj : ∀ j j', j < n → j' < n → ids j = ids j' → j = j'
  wlt : W < nx
namespace RowsAt
variable {H H' : Nat → Option Ob} {nx nx' W n : Nat} {ids : Nat → Nat} {N : Nat → Nat → Int}
theorem same (h : RowsAt H nx W n ids N) (hx : nx ≤ nx') (hH : ∀ id, id < nx → H' id = H id) : RowsAt H' nx' W n ids N :=
  ⟨by rw [hH _ h.wlt, h.hW], fun j hj => by rw [hH _ (h.lt j hj), h.row j hj], fun j hj => by have := h.lt j hj; omega, h.ne, h.inj, by have := h.wlt; omega⟩
theorem put (h : RowsAt H nx W n ids N) (hx : nx ≤ nx') {i : Nat} (hi : i < n) {r : Nat → Int} (hr : H' (ids i) = some (rowOb n r)) (hH : ∀ id, id < nx → id ≠ ids i → H' id = H id) : RowsAt H' nx' W n ids (fun j => if j = i then r else N j) :=
  ⟨by rw [hH _ h.wlt (fun e => h.ne i hi e.symm), h.hW], fun j hj => by
    by_cases c : j = i
    · subst c; simp only [if_true]; exact hr
    · rw [if_neg c, hH _ (h.lt j hj) (fun e => c (h.inj j i hj hi e)), h.row j hj], fun j hj => by have := h.lt j hj; omega, h.ne, h.inj, by have := h.wlt; omega⟩
theorem swap (h : RowsAt H nx W n ids N) (hx : nx ≤ nx') {c b : Nat} (hc : c < n) (hb : b < n) (hW : H' W = some ⟨0, 2, 1, cellsOf n (upd (upd (refC n ids) c (refC n ids b)) b (refC n ids c))⟩) (hH : ∀ id, id < nx → id ≠ W → H' id = H id) :
    RowsAt H' nx' W n (fun j => if j = b then ids c else if j = c then ids b else ids j) (swM N c b) := by
  refine ⟨?_, fun j hj => ?_, fun j hj => ?_, fun j hj => ?_, fun j j' hj hj' e => ?_, by have := h.wlt; omega⟩
  · rw [hW]
    congr 2
    refine cells_congr fun j hj => ?_
    unfold refC upd
    by_cases c1 : j = b
    · simp [c1]
    · by_cases c2 : j = c
      · simp only [c1, c2, if_true, if_false]; by_cases c3 : c = b
        · exact absurd (c2.trans c3) c1
        · rw [if_neg c3, if_neg c3]
      · simp [c1, c2]
  · unfold swM
    by_cases c1 : j = b
    · subst c1
      rw [if_pos rfl, hH _ (h.lt c hc) (h.ne c hc), h.row c hc]
      by_cases c2 : j = c
      · subst c2; rw [if_pos rfl]
      · rw [if_neg c2, if_pos rfl]
    · rw [if_neg c1]
      by_cases c2 : j = c
      · rw [if_pos c2, if_pos c2, hH _ (h.lt b hb) (h.ne b hb), h.row b hb]
      · rw [if_neg c2, if_neg c2, if_neg c1, hH _ (h.lt j hj) (h.ne j hj), h.row j hj]
  · have := h.lt j hj; have := h.lt c hc; have := h.lt b hb
    (repeat' split) <;> omega
  · have := h.ne j hj; have := h.ne c hc; have := h.ne b hb
    (repeat' split) <;> assumption
  · have i1 := h.inj j j' hj hj'
    have i2 := h.inj c j' hc hj'
    have i3 := h.inj b j' hb hj'
    have i4 := h.inj j c hj hc
    have i5 := h.inj j b hj hb
    have i6 := h.inj b c hb hc
    have i7 := h.inj c b hc hb
    (repeat' split at e) <;> omega
theorem cg (h : RowsAt H nx W n ids N) {N' : Nat → Nat → Int} (e : ∀ i k, i < n → k < n → N i k = N' i k) : RowsAt H nx W n ids N' :=
  ⟨h.hW, fun j hj => by
    rw [h.row j hj]
    unfold rowOb
    rw [tab_ext fun k hk => e j k hj hk], h.lt, h.ne, h.inj, h.wlt⟩
theorem nwi (h : RowsAt H nx W n ids N) {i : Nat} (hi : i < n) : (W = ids i) = False := by simpa using fun e => h.ne i hi e.symm
theorem niw (h : RowsAt H nx W n ids N) {i : Nat} (hi : i < n) : (ids i = W) = False := by simpa using h.ne i hi
theorem nij (h : RowsAt H nx W n ids N) {i j : Nat} (hi : i < n) (hj : j < n) (e : i ≠ j) : (ids i = ids j) = False := by simpa using fun q => e (h.inj i j hi hj q)
/-- The rows from c on, as they are read. -/
theorem pur (h : RowsAt H nx W n ids N) {d c : Nat} (hc : c ≤ n) : (((cellsOf n (refC n ids)).drop c).take (n - c)).mapM (purN H (d + 1)) = some (((List.range (n - c)).map fun t => tab n (N (c + t))).map LV) := by
  have key : ∀ m a, a + m ≤ n → ((List.range' a m).map (refC n ids)).mapM (purN H (d + 1)) = some (((List.range' a m).map fun t => tab n (N t)).map LV) := by
    intro m
    induction m with
    | zero => intro a _; rfl
    | succ m ih =>
      intro a ha
      rw [List.range'_succ, List.map_cons, List.mapM_cons, ih (a + 1) (by omega)]
      have e : purN H (d + 1) (refC n ids a) = some (LV (tab n (N a))) := by
        unfold refC
        simp only [purN, getO, h.row a (by omega), rowOb, if_true]
        rw [if_pos (by simp [tab_len])]
        rw [List.drop_zero, Nat.mul_one, List.take_of_length_le (by simp [tab_len]), mapM_purN_int]
        unfold LV
        rw [tab_len]; rfl
      rw [e]; rfl
  have e : ((cellsOf n (refC n ids)).drop c).take (n - c) = (List.range' c (n - c)).map (refC n ids) := by
    unfold cellsOf
    rw [← List.map_drop, ← List.map_take, List.range_eq_range', List.drop_range', List.take_of_length_le (by simp)]
    simp
  rw [e, key _ _ (by omega)]
  congr 2
  rw [List.range'_eq_map_range, List.map_map]
  rfl
end RowsAt

/-! ### The pivot -/
theorem pvF_zero (M : Nat → Nat → Int) (c n : Nat) : ∀ d, d ≤ n → ∀ t, n - d ≤ t → t < pvF M c n d → M t c = 0
  | 0, _, t, h1, h2 => by unfold pvF at h2; omega
  | d + 1, hd, t, h1, h2 => by
    unfold pvF at h2
    split at h2
    · rename_i h0
      by_cases e : t = n - (d + 1)
      · subst e; exact h0
      · exact pvF_zero M c n d (by omega) t (by omega) h2
    · omega
theorem pvF_at (M : Nat → Nat → Int) (c n : Nat) : ∀ d, d ≤ n → pvF M c n d < n → M (pvF M c n d) c ≠ 0
  | 0, _, h => by unfold pvF at h; omega
  | d + 1, hd, h => by
    unfold pvF at h ⊢
    split
    · rename_i h0
      rw [if_pos h0] at h
      exact pvF_at M c n d (by omega) h
    · assumption
theorem pv_find (N : Nat → Nat → Int) {c n : Nat} (hc : c < n) :
    ((List.range (n - c)).map fun t => tab n (N (c + t))).findIdx? (fun x => decide (rdI x c ≠ 0)) = if pvF N c n (n - c) = n then none else some (pvF N c n (n - c) - c) := by
  have h1 := pvF_le N c n (n - c) (by omega)
  have hz := pvF_zero N c n (n - c) (by omega)
  have ha := pvF_at N c n (n - c) (by omega)
  generalize pvF N c n (n - c) = b at *
  split
  · subst_vars
    rw [List.findIdx?_eq_none_iff]
    intro x hx
    obtain ⟨t, ht, rfl⟩ := List.mem_map.1 hx
    have := List.mem_range.1 ht
    rw [tab_rd hc, hz (c + t) (by omega) (by omega)]; rfl
  · rw [List.findIdx?_eq_some_iff_getElem]
    refine ⟨by simp; omega, ?_, fun j hj => ?_⟩
    · simp only [List.getElem_map, List.getElem_range, tab_rd hc]
      rw [show c + (b - c) = b by omega]
      simpa using ha (by omega)
    · simp only [List.getElem_map, List.getElem_range, tab_rd hc]
      rw [hz (c + j) (by omega) (by omega)]; simp
theorem ldInt2 : ldT Try.prog 3 = some (false, 1) := by kernel_rfl
theorem szInt2 : szT Try.prog 3 = some 1 := by kernel_rfl
theorem zInt2 : zeroT Try.prog 3 = some [.int .i64 0] := by kernel_rfl
theorem swM_self (M : Nat → Nat → Int) (c : Nat) : swM M c c = M := by
  funext i
  unfold swM
  split
  · rename_i h; rw [h]
  · rfl
theorem run_det1 (r : List Int) (c : Nat) (hc : c < r.length) : runv E0 161 [(V.list (List.length (r)) (List.map (V.int .i64) (r))), .ref [.int .i64 (c : Int)] 0] = some ⟨true, .bool (decide (rdI r c ≠ 0)), [.undef, .undef]⟩ := by
  have hci : (c : Int) < r.length := by omega
  have cdk : codeOk Try.f161.ntmps (Try.f161.body.getD .skip) = true := by kernel_rfl
  refine run_of_WL (fn := Try.f161) rfl Try.func161 rfl ⟨by simp [Try.ntmps161], by simp [wideA, ints], cdk, by simp [Try.f161]⟩ ?_
  simp [go_sem, -map_replicate, -map_set, -map_append, -map_reverse, -map_take, -map_drop, -map_tail, -any_map, -all_map, -mapM_map, -map_map, bitvec_to_nat, hc, hci, undInt, ldInt2]
  simp [mvcgen_simp, -map_replicate, -map_set, -map_append, -map_reverse, -map_take, -map_drop, -map_tail, -any_map, -all_map, -mapM_map, -map_map, Try.f161]
theorem run_determinant (p : Int) (n : Nat) (M : Nat → Nat → Int) (hp : 2 ≤ p ∧ p ≤ 10007) (hn : n ≤ 100) (hr : rngM p n M) :
    runv E2 154 [(V.int .i64 (p)), .list n ((rowsM n M).map LV)] = some ⟨true, .int .i64 (dtF p n n M 1), [.undef, .undef]⟩ := by
  have n1 : n * 24 ≤ 140737488355328 := by omega
  have n2 : (n : Int) ≤ 9223372036854775807 := by omega
  have cdk : codeOk Try.f154.ntmps (Try.f154.body.getD .skip) = true := by kernel_rfl
  refine run_of_WL (E := E2) (fn := Try.f154) rfl Try.func154 rfl ⟨by simp [Try.ntmps154], by simp [wideA, ints], cdk, by simp [Try.f154]⟩ ?_
  simp [go_sem, -map_replicate, -map_set, -map_append, -map_reverse, -map_take, -map_drop, -map_tail, -any_map, -all_map, -mapM_map, -map_map, bitvec_to_nat, zR, slR, undR, apR, n1, n2, zeros_nils, cells_len]
  repeat refine ⟨by kernel_rfl, by kernel_rfl, ?_⟩
  rw [WL_loop]
  refine WL_count (I := fun i st => ∃ ids : Nat → Nat, st.fr 0 = .int .i64 p ∧ st.fr 5 = .sl 208 0 0 n ∧ st.fr 18 = .list n ((rowsM n M).map LV) ∧ st.fr 19 = .int .i64 n ∧ st.fr 20 = .int .i64 (i : Int) ∧ st.H 208 = some (⟨0, 2, 1, cellsOf n (fun j => if j < i then refC n ids j else .nils)⟩) ∧ 208 < st.nx ∧ (∀ j, j < i → st.H (ids j) = some (rowOb n (M j)) ∧ ids j < st.nx ∧ ids j ≠ 208) ∧ (∀ j j', j < i → j' < i → ids j = ids j' → j = j')) n ?_ ?_ 0 _ (by omega) ?_
  · rintro i st hi ⟨ids, he0, he1, he2, he3, he4, he5, he6, hids, hinj⟩ next
    have hii : (i : Int) < (n : Int) := by omega
    have i0 : (0 : Int) ≤ (i : Int) := by omega
    have w1 : IntKind.i64.wrap ((i : Int) + 1) = (i : Int) + 1 := IntWalk.i64_in _ (by omega)
    have lt := tab_len n (M i)
    have gi := rowsM_get M hi LV
    have lR := rowsM_len n M
    have g1 := upS (run_Clone (tab n (M i)) (by omega) (by omega))
    rw [lt] at g1
    have cl := cells_len n (fun j => if j < i then refC n ids j else .nils)
    simp [go_sem, -map_replicate, -map_set, -map_append, -map_reverse, -map_take, -map_drop, -map_tail, -any_map, -all_map, -mapM_map, -map_map, slL, szI, ldI, zI, undL, apL, setI, rdI_get, Nat.add_one_le_iff, fillV, zeros1, zeros0, appendD, segV, lvO, goneOf, sliceD, bound, Nat.add_assoc, he0, he1, he2, he3, he4, he5, szL, ldL, setCs0, setCs1, setCs2, setCsA2, setCsA3, ldM, fM0, fM1, szM, zM, plM0, plM1, agM, paM, ldJ, fJ0, fJ1, fJ2, szJ, zJ, plJ0, plJ1, plJ2, agJ, paJ, hii, i0, hi, w1, lt, gi, lR, g1, cl, LV, rowsM_ix, zR, slR, undR, apR]
    repeat refine ⟨by kernel_rfl, by kernel_rfl, ?_⟩
    obtain ⟨ids', f2, f1⟩ : ∃ ids' : Nat → Nat, ids' i = st.nx + 576 ∧ ∀ j, j < i → ids' j = ids j := ⟨fun j => if j = i then st.nx + 576 else ids j, if_pos rfl, fun j hj => if_neg (by omega)⟩
    have cs : setCs (cellsOf n (fun j => if j < i then refC n ids j else V.nils)) i [V.sl (st.nx + 576) 0 0 n] = cellsOf n (fun j => if j < i + 1 then refC n ids' j else .nils) := by
      rw [cells_set _ _ hi]
      refine cells_congr fun j hj => ?_
      unfold refC upd
      by_cases c : j = i
      · subst c; rw [if_pos rfl, if_pos (by omega), f2]
      · rw [if_neg c]
        show (if j < i then V.sl (ids j) 0 0 n else V.nils) = _
        by_cases d : j < i
        · rw [if_pos d, if_pos (by omega), f1 j d]
        · rw [if_neg d, if_neg (by omega)]
    refine next _ ⟨ids', by simp [upd, he0], by simp [upd, he1], by simp [upd, he2], by simp [upd, he3], by simp [upd], by simp [upd, cs], by simp <;> omega, fun j hj => ?_, fun j j' hj hj' he => ?_⟩
    · by_cases c : j = i
      · subst c
        rw [f2]
        refine ⟨?_, by simp, by omega⟩
        have m3 : ¬ st.nx + 576 = 208 := by omega
        simp [upd, rowOb, m3]
      · rw [f1 j (by omega)]
        obtain ⟨g2, g3, g4⟩ := hids j (by omega)
        have m2 : ¬ ids j = st.nx + 576 := by omega
        refine ⟨by simp [upd, m2, g4, g2], by simp <;> omega, g4⟩
    · by_cases c : j = i
      · by_cases c' : j' = i
        · omega
        · rw [c, f2, f1 j' (by omega)] at he
          have := (hids j' (by omega)).2.1
          omega
      · by_cases c' : j' = i
        · rw [c', f2, f1 j (by omega)] at he
          have := (hids j (by omega)).2.1
          omega
        · rw [f1 j (by omega), f1 j' (by omega)] at he
          exact hinj j j' (by omega) (by omega) he
  · rintro st ⟨ids, he0, he1, he2, he3, he4, he5, he6, hids, hinj⟩
    have hR : RowsAt st.H st.nx 208 n ids M := ⟨by rw [he5]; congr 2; exact cells_congr fun j hj => if_pos hj, fun j hj => (hids j hj).1, fun j hj => (hids j hj).2.1, fun j hj => (hids j hj).2.2, hinj, he6⟩
    have gm := upS (run_mod p 1 hp)
    rw [show (1 : Int) % p = 1 from Int.emod_eq_of_lt (by omega) (by omega)] at gm
    simp [go_sem, -map_replicate, -map_set, -map_append, -map_reverse, -map_take, -map_drop, -map_tail, -any_map, -all_map, -mapM_map, -map_map, slL, szI, ldI, zI, undL, apL, setI, rdI_get, Nat.add_one_le_iff, fillV, zeros1, zeros0, appendD, segV, lvO, goneOf, sliceD, bound, Nat.add_assoc, he0, he1, he2, he3, he4, he5, szL, ldL, setCs0, setCs1, setCs2, setCsA2, setCsA3, ldM, fM0, fM1, szM, zM, plM0, plM1, agM, paM, ldJ, fJ0, fJ1, fJ2, szJ, zJ, plJ0, plJ1, plJ2, agJ, paJ, gm]
    repeat refine ⟨by kernel_rfl, by kernel_rfl, ?_⟩
    obtain ⟨D, hD⟩ : ∃ D, dtF p n n M 1 = D := ⟨_, rfl⟩
    rw [hD]
    rw [WL_loop]
    refine WL_rounds (I := fun j st => ∃ (ids : Nat → Nat) (N : Nat → Nat → Int) (out : Int), st.fr 0 = .int .i64 p ∧ st.fr 5 = .sl 208 0 0 n ∧ st.fr 8 = .int .i64 out ∧ st.fr 34 = .int .i64 n ∧ st.fr 35 = .int .i64 ((n - j : Nat) : Int) ∧ RowsAt st.H st.nx 208 n ids N ∧ j ≤ n ∧ rngM p n N ∧ (0 ≤ out ∧ out < p) ∧ dtF p n j N out = D) ?_ n _ ?_
    · rintro j st ⟨ids, N, out, hf0, hf1, hf2, hf3, hf4, hR, hj, hN, ho, hd⟩ next
      rcases j with _ | d
      · rw [Nat.sub_zero] at hf4
        have hd' : out = D := hd
        subst hd'
        simp [go_sem, -map_replicate, -map_set, -map_append, -map_reverse, -map_take, -map_drop, -map_tail, -any_map, -all_map, -mapM_map, -map_map, slL, szI, ldI, zI, undL, apL, setI, rdI_get, Nat.add_one_le_iff, fillV, zeros1, zeros0, appendD, segV, lvO, goneOf, sliceD, bound, Nat.add_assoc, hf0, hf1, hf2, hf3, hf4, szL, ldL, setCs0, setCs1, setCs2, setCsA2, setCsA3, ldM, fM0, fM1, szM, zM, plM0, plM1, agM, paM, ldJ, fJ0, fJ1, fJ2, szJ, zJ, plJ0, plJ1, plJ2, agJ, paJ]
        simp [mvcgen_simp, -map_replicate, -map_set, -map_append, -map_reverse, -map_take, -map_drop, -map_tail, -any_map, -all_map, -mapM_map, -map_map, Try.f154, hf0, hf1, hf2, hf3, hf4]
      · obtain ⟨c, hc⟩ : ∃ c, n - (d + 1) = c := ⟨_, rfl⟩
        rw [hc] at hf4
        have hcn : c < n := by omega
        have hci : (c : Int) < (n : Int) := by omega
        have c0 : (0 : Int) ≤ (c : Int) := by omega
        have cl := cells_len n (refC n ids)
        have cle : c ≤ n := by omega
        have wl := hR.wlt
        obtain ⟨m, hm⟩ : ∃ m, st.nx = m + 209 := ⟨st.nx - 209, by omega⟩
        have x1 : ∀ A B, List.mapM (purN (upd (upd st.H (m + 337) A) (m + 337) B) 5) (List.take (n - c) (List.drop c (cellsOf n (refC n ids)))) = some (((List.range (n - c)).map fun t => tab n (N (c + t))).map LV) := fun A B =>
          (hR.same (nx' := st.nx) (Nat.le_refl _) (H' := upd (upd st.H (m + 337) A) (m + 337) B) fun id h => by rw [upd_ne _ _ _ _ (by omega), upd_ne _ _ _ _ (by omega)]).pur (d := 4) cle
        have fi := upS (run_IndexFuncL ((List.range (n - c)).map fun t => tab n (N (c + t))) 161 [] [.ref [.int .i64 (c : Int)] 0] (fun x => decide (rdI x c ≠ 0)) (by simp; omega) (fun H b x hx => by
          obtain ⟨t, ht, rfl⟩ := List.mem_map.1 hx
          have g := run_det1 (tab n (N (c + t))) c (by rw [tab_len]; exact hcn)
          simp [modesOf, callD, prepL, prepA, purN, idsN, depth, g, nodupB, flatO, noTup, backW, widthOk, wideA, adopt, adoptA, adoptC, treeN, LV]))
        rw [pv_find N hcn, show ((List.range (n - c)).map fun t => tab n (N (c + t))).length = n - c by simp] at fi
        have hnc : n - c = d + 1 := by omega
        have hcd : c + (d + 1) ≤ n := by omega
        have hL : ((List.range (n - c)).map fun t => tab n (N (c + t))).length = n - c := by simp
        generalize ((List.range (n - c)).map fun t => tab n (N (c + t))) = L at x1 fi hL
        rw [hnc] at fi hL
        unfold dtF at hd
        simp only [hc] at hd
        have hb1 := pvF_le N c n (d + 1) (by omega)
        have hba := pvF_at N c n (d + 1) (by omega)
        have hpn : ¬ p = 0 := by omega
        rw [hnc] at x1
        generalize pvF N c n (d + 1) = b at *
        by_cases hbn : b = n
        · rw [if_pos hbn] at fi hd
          subst hd
          dsimp only at fi
          simp [go_sem, -map_replicate, -map_set, -map_append, -map_reverse, -map_take, -map_drop, -map_tail, -any_map, -all_map, -mapM_map, -map_map, slL, szI, ldI, zI, undL, apL, setI, rdI_get, Nat.add_one_le_iff, fillV, zeros1, zeros0, appendD, segV, lvO, goneOf, sliceD, bound, Nat.add_assoc, hf0, hf1, hf2, hf3, hf4, szL, ldL, setCs0, setCs1, setCs2, setCsA2, setCsA3, ldM, fM0, fM1, szM, zM, plM0, plM1, agM, paM, ldJ, fJ0, fJ1, fJ2, szJ, zJ, plJ0, plJ1, plJ2, agJ, paJ, hci, hcn, c0, cl, cle, hnc, hcd, hL, hR.hW, hm, x1, fi, cells_ix, refC, ldInt2, szInt2, zInt2, zR, slR, undR, apR]
          repeat refine ⟨by kernel_rfl, by kernel_rfl, ?_⟩
          simp [mvcgen_simp, -map_replicate, -map_set, -map_append, -map_reverse, -map_take, -map_drop, -map_tail, -any_map, -all_map, -mapM_map, -map_map, Try.f154, hf0, hf1, hf2, hf3, hf4]
        · rw [if_neg hbn] at fi hd
          dsimp only at fi
          have hbn2 : b < n := by omega
          by_cases hbc : c = b
          · obtain rfl := hbc
            rw [Nat.sub_self] at fi
            rw [if_pos rfl, swM_self] at hd
            have ib0 : ¬ ((c - c : Nat) : Int) < 0 := by omega
            have ib1 : True := trivial
            have ib2 : True := trivial
            have ib3 : True := trivial
            have w2 : IntKind.i64.wrap ((c : Int) + ((c - c : Nat) : Int)) = (c : Int) := by rw [IntWalk.i64_in _ (by omega)]; omega
            have b0 : (0 : Int) ≤ (c : Int) := by omega
            have bi : (c : Int) < (n : Int) := by omega
            have cs1 : setCs (cellsOf n (refC n ids)) c [V.sl (ids c) 0 0 n] = cellsOf n (upd (refC n ids) c (V.sl (ids c) 0 0 n)) := cells_set _ _ hcn
            have cs2 : setCs (cellsOf n (upd (refC n ids) c (V.sl (ids c) 0 0 n))) c [V.sl (ids c) 0 0 n] = cellsOf n (upd (upd (refC n ids) c (V.sl (ids c) 0 0 n)) c (V.sl (ids c) 0 0 n)) := cells_set _ _ hcn
            have cl1 := cells_len n (upd (refC n ids) c (V.sl (ids c) 0 0 n))
            have cl2 := cells_len n (upd (upd (refC n ids) c (V.sl (ids c) 0 0 n)) c (V.sl (ids c) 0 0 n))
            have ue1 : upd (upd (refC n ids) c (V.sl (ids c) 0 0 n)) c (V.sl (ids c) 0 0 n) c = V.sl (ids c) 0 0 n := by unfold upd; split <;> simp_all
            have w3 : IntKind.i64.wrap (-out) = -out := IntWalk.i64_in _ (by omega)
            have gm := upS (run_mod p (-out) hp)
            have rc := hR.row c hcn
            unfold rowOb at rc
            have nm : ¬ ids c = m + 337 := by have := hR.lt c hcn; omega
            have nw : ¬ ids c = 208 := hR.ne c hcn
            have tlc := tab_len n (N c)
            have trc : rdI (tab n (N c)) c = N c c := tab_rd hcn
            have hx := hN c c hcn hcn
            have ro : 0 ≤ out ∧ out < p := ho
            have pm := mul_small (p := 10007) (by omega) (show 0 ≤ out ∧ out < 10007 by omega) (show 0 ≤ N c c ∧ N c c < 10007 by omega)
            have w4 : IntKind.i64.wrap (out * N c c) = out * N c c := IntWalk.i64_in _ (by omega)
            have gmul := upS (run_mul p out (N c c) hp w4)
            have w5 : IntKind.i64.wrap ((c : Int) + 1) = (c : Int) + 1 := IntWalk.i64_in _ (by omega)
            have c1n : c + 1 ≤ n := by omega
            have c1i : (0 : Int) ≤ (c : Int) + 1 := by omega
            have c1t : ((c : Int) + 1).toNat = c + 1 := by omega
            simp [go_sem, -map_replicate, -map_set, -map_append, -map_reverse, -map_take, -map_drop, -map_tail, -any_map, -all_map, -mapM_map, -map_map, slL, szI, ldI, zI, undL, apL, setI, rdI_get, Nat.add_one_le_iff, fillV, zeros1, zeros0, appendD, segV, lvO, goneOf, sliceD, bound, Nat.add_assoc, hf0, hf1, hf2, hf3, hf4, szL, ldL, setCs0, setCs1, setCs2, setCsA2, setCsA3, ldM, fM0, fM1, szM, zM, plM0, plM1, agM, paM, ldJ, fJ0, fJ1, fJ2, szJ, zJ, plJ0, plJ1, plJ2, agJ, paJ,  hci, hcn, c0, cl, cle, hnc, hcd, hL, hR.hW, hm, x1, fi, cells_ix, refC, rc, nm, nw, tlc, trc, w4, w5, c1n, c1i, c1t, gmul, ldInt2, szInt2, zInt2, zR, slR, undR, apR]
            repeat refine ⟨by kernel_rfl, by kernel_rfl, ?_⟩
            have N2c : N c = N c := rfl
            have hlt2 : ∀ j, j < n → ids j < m + 209 := fun j hj => by
              have h1 := hR.lt j hj
              have h2 := hR.lt c hcn
              have h3 := hR.lt c hcn
              try dsimp only
              (repeat' split) <;> omega
            have hRN : rngM p n N := hN
            have hRS : ∀ (H' : Nat → Option Ob) (nx' : Nat), st.nx ≤ nx' → H' 208 = some ⟨0, 2, 1, cellsOf n (refC n ids)⟩ → (∀ id, id < st.nx → id ≠ 208 → H' id = st.H id) → RowsAt H' nx' 208 n ids N := fun H' nx' h1 h2 h3 => hR.same h1 fun id h => if e : id = 208 then by rw [e, h2, hR.hW] else h3 id h e
            have ro2 := mod_small hp (out * N c c)
            generalize out * N c c % p = out2 at *
            obtain ⟨ids2, eids⟩ : ∃ x, ids = x := ⟨_, rfl⟩
            obtain ⟨N2, eN⟩ : ∃ x, N = x := ⟨_, rfl⟩
            rw [eids] at hlt2 hRS
            rw [eN] at hRN hRS hd
            rw [WL_loop]
            refine WL_count (I := fun q st' => st'.fr 0 = .int .i64 p ∧ st'.fr 5 = .sl 208 0 0 n ∧ st'.fr 8 = .int .i64 out2 ∧ st'.fr 9 = .ptr (m + 337) 0 0 ∧ st'.fr 34 = .int .i64 n ∧ st'.fr 35 = .int .i64 (c : Int) ∧ st'.fr 82 = .sl 208 0 (c + 1) (n - (c + 1)) ∧ st'.fr 83 = .int .i64 ((n - (c + 1) : Nat) : Int) ∧ st'.fr 84 = .int .i64 (q : Int) ∧ st'.H (m + 337) = some (⟨0, 1, 1, [.int .i64 (c : Int)]⟩) ∧ m + 337 < st'.nx ∧ RowsAt st'.H st'.nx 208 n ids2 (elP p N2 c (c + 1 + q))) (n - (c + 1)) ?_ ?_ 0 _ (by omega) ?_
            · rintro q st' hq ⟨hg0, hg1, hg2, hg3, hg4, hg5, hg6, hg7, hg8, hg9, hg10, hR'⟩ next2
              obtain ⟨i, hi⟩ : ∃ i, c + 1 + q = i := ⟨_, rfl⟩
              have hi' : c + 1 + (q + 1) = i + 1 := by omega
              rw [hi'] at next2
              rw [hi] at hR'
              have hin : i < n := by omega
              have hqi : (q : Int) < ((n - (c + 1) : Nat) : Int) := by omega
              have hqn : q < n - (c + 1) := hq
              have q0 : (0 : Int) ≤ (q : Int) := by omega
              have q1 : c + (1 + q) = i := by omega
              have ei : elP p N2 c i i = N2 i := by unfold elP; rw [if_neg (by omega)]
              have ec : elP p N2 c i c = N2 c := by unfold elP; rw [if_neg (by omega)]
              have ri := hR'.row i hin
              have rcc := hR'.row c hcn
              rw [ei] at ri
              rw [ec] at rcc
              unfold rowOb at ri rcc
              have ni : ¬ ids2 i = m + 337 := by have := hlt2 i hin; omega
              have nc : ¬ ids2 c = m + 337 := by have := hlt2 c hcn; omega
              have nci : ¬ ids2 c = ids2 i := fun e => by have := hR'.inj c i hcn hin e; omega
              have ni8 : ¬ ids2 i = 208 := hR'.ne i hin
              have nc8 : ¬ ids2 c = 208 := hR'.ne c hcn
              have tli := tab_len n (N2 i)
              have tlc2 := tab_len n (N2 c)
              have tri : rdI (tab n (N2 i)) c = N2 i c := tab_rd hcn
              have trc2 : rdI (tab n (N2 c)) c = N2 c c := tab_rd hcn
              have rx := hRN i c hin hcn
              have ry := hRN c c hcn hcn
              have gdiv := upS (run_div p (N2 i c) (N2 c c) hp rx ry)
              have rtm := divP_range hp (N2 i c) (N2 c c)
              have ev : ∀ k, elN p N2 c i k = (N2 i k - divP p (N2 i c) (N2 c c) * N2 c k) % p := fun k => rfl
              generalize divP p (N2 i c) (N2 c c) = tm at *
              have cln := cells_len n (refC n ids2)
              simp [go_sem, -map_replicate, -map_set, -map_append, -map_reverse, -map_take, -map_drop, -map_tail, -any_map, -all_map, -mapM_map, -map_map, slL, szI, ldI, zI, undL, apL, setI, rdI_get, Nat.add_one_le_iff, fillV, zeros1, zeros0, appendD, segV, lvO, goneOf, sliceD, bound, Nat.add_assoc, hg0, hg1, hg2, hg3, hg4, hg5, hg6, hg7, hg8, hg9, szL, ldL, setCs0, setCs1, setCs2, setCsA2, setCsA3, ldM, fM0, fM1, szM, zM, plM0, plM1, agM, paM, ldJ, fJ0, fJ1, fJ2, szJ, zJ, plJ0, plJ1, plJ2, agJ, paJ, hqi, hqn, q0, q1, hin, hci, hcn, c0, hR'.hW, ri, rcc, ni, nc, ni8, nc8, tli, tlc2, tri, trc2, gdiv, cln, cells_ix, refC, ldInt2, szInt2, zInt2, zR, slR, undR, apR]
              repeat refine ⟨by kernel_rfl, by kernel_rfl, ?_⟩
              rw [WL_loop]
              refine WL_count (I := fun k st'' => st''.fr 0 = .int .i64 p ∧ st''.fr 5 = .sl 208 0 0 n ∧ st''.fr 8 = .int .i64 out2 ∧ st''.fr 9 = .ptr (m + 337) 0 0 ∧ st''.fr 12 = .sl (ids2 i) 0 0 n ∧ st''.fr 13 = .int .i64 tm ∧ st''.fr 34 = .int .i64 n ∧ st''.fr 35 = .int .i64 (c : Int) ∧ st''.fr 82 = .sl 208 0 (c + 1) (n - (c + 1)) ∧ st''.fr 83 = .int .i64 ((n - (c + 1) : Nat) : Int) ∧ st''.fr 84 = .int .i64 (q : Int) ∧ st''.fr 102 = .int .i64 n ∧ st''.fr 103 = .int .i64 (k : Int) ∧ st''.H (m + 337) = some (⟨0, 1, 1, [.int .i64 (c : Int)]⟩) ∧ m + 337 < st''.nx ∧ RowsAt st''.H st''.nx 208 n ids2 (fun j => if j = i then (fun t => if t < k then elN p N2 c i t else N2 i t) else elP p N2 c i j)) n ?_ ?_ 0 _ (by omega) ?_
              · rintro k st'' hk ⟨hh0, hh1, hh2, hh3, hh4, hh5, hh6, hh7, hh8, hh9, hh10, hh11, hh12, hh13, hh14, hR3⟩ next3
                have kn : (k : Int) < (n : Int) := by omega
                have k0 : (0 : Int) ≤ (k : Int) := by omega
                have ri3 := hR3.row i hin
                have rc3 := hR3.row c hcn
                rw [if_pos rfl] at ri3
                rw [if_neg (by omega), ec] at rc3
                unfold rowOb at ri3 rc3
                have tl3 := tab_len n (fun t => if t < k then elN p N2 c i t else N2 i t)
                have tr3 : rdI (tab n (fun t => if t < k then elN p N2 c i t else N2 i t)) k = N2 i k := by rw [tab_rd hk, if_neg (by omega)]
                have trc3 : rdI (tab n (N2 c)) k = N2 c k := tab_rd hk
                have ts : (tab n (fun t => if t < k then elN p N2 c i t else N2 i t)).set k ((N2 i k - tm * N2 c k) % p) = tab n (fun t => if t < k + 1 then elN p N2 c i t else N2 i t) := by
                  rw [tab_set]
                  refine tab_ext fun t ht => ?_
                  by_cases e1 : k = t
                  · subst e1; rw [if_pos rfl, if_pos (by omega), ev]
                  · rw [if_neg e1]
                    by_cases e2 : t < k
                    · rw [if_pos e2, if_pos (by omega)]
                    · rw [if_neg e2, if_neg (by omega)]
                have rx3 := hRN i k hin hk
                have ry3 := hRN c k hcn hk
                have pm3 := mul_small (p := 10007) (by omega) (show 0 ≤ tm ∧ tm < 10007 by omega) (show 0 ≤ N2 c k ∧ N2 c k < 10007 by omega)
                have w6 : IntKind.i64.wrap (tm * N2 c k) = tm * N2 c k := IntWalk.i64_in _ (by omega)
                have w7 : IntKind.i64.wrap (N2 i k - tm * N2 c k) = N2 i k - tm * N2 c k := IntWalk.i64_in _ (by omega)
                have w8 : IntKind.i64.wrap ((k : Int) + 1) = (k : Int) + 1 := IntWalk.i64_in _ (by omega)
                have hmod := upS (run_mod p (N2 i k - tm * N2 c k) hp)
                have hput := fun H' nx' (h1 : st''.nx ≤ nx') (h2 : H' (ids2 i) = some (rowOb n (fun t => if t < k + 1 then elN p N2 c i t else N2 i t))) h3 => (hR3.put (H' := H') h1 hin h2 h3).cg (N' := fun j => if j = i then (fun t => if t < k + 1 then elN p N2 c i t else N2 i t) else elP p N2 c i j) (fun a t _ _ => by
                  by_cases e1 : a = i
                  · rw [if_pos e1, if_pos e1]
                  · rw [if_neg e1, if_neg e1, if_neg e1])
                have hW3 := hR3.hW
                generalize tab n (fun t => if t < k then elN p N2 c i t else N2 i t) = T at *
                simp [go_sem, -map_replicate, -map_set, -map_append, -map_reverse, -map_take, -map_drop, -map_tail, -any_map, -all_map, -mapM_map, -map_map, slL, szI, ldI, zI, undL, apL, setI, rdI_get, Nat.add_one_le_iff, fillV, zeros1, zeros0, appendD, segV, lvO, goneOf, sliceD, bound, Nat.add_assoc, hh0, hh1, hh2, hh3, hh4, hh5, hh6, hh7, hh8, hh9, hh10, hh11, hh12, hh13, szL, ldL, setCs0, setCs1, setCs2, setCsA2, setCsA3, ldM, fM0, fM1, szM, zM, plM0, plM1, agM, paM, ldJ, fJ0, fJ1, fJ2, szJ, zJ, plJ0, plJ1, plJ2, agJ, paJ, kn, k0, hk, hin, hci, hcn, c0, hW3, ri3, rc3, ni, nc, nci, ni8, nc8, tl3, tlc2, tr3, trc3, ts, w6, w7, w8, hmod, cln, cells_ix, refC, ldInt2, szInt2, zInt2, zR, slR, undR, apR]
                repeat refine ⟨by kernel_rfl, by kernel_rfl, ?_⟩
                have ni' : ¬ m + 337 = ids2 i := fun e => ni e.symm
                refine next3 _ ⟨by simp [upd, hh0], by simp [upd, hh1], by simp [upd, hh2], by simp [upd, hh3], by simp [upd, hh4], by simp [upd, hh5], by simp [upd, hh6], by simp [upd, hh7], by simp [upd, hh8], by simp [upd, hh9], by simp [upd, hh10], by simp [upd, hh11], by simp [upd], by simp [upd, ni', hh13], by simp <;> omega, hput _ _ (by simp) (by simp [upd, rowOb]) (fun id h e => upd_ne _ _ _ _ e)⟩
              · rintro st'' ⟨hh0, hh1, hh2, hh3, hh4, hh5, hh6, hh7, hh8, hh9, hh10, hh11, hh12, hh13, hh14, hR3⟩
                have w9 : IntKind.i64.wrap ((q : Int) + 1) = (q : Int) + 1 := IntWalk.i64_in _ (by omega)
                have hR4 := hR3.cg (N' := elP p N2 c (i + 1)) (fun a t ha ht => by
                  by_cases e1 : a = i
                  · subst e1
                    rw [if_pos rfl, if_pos ht]
                    unfold elP
                    rw [if_pos ⟨by omega, by omega⟩]
                  · rw [if_neg e1]
                    unfold elP
                    by_cases e2 : c < a ∧ a < i
                    · rw [if_pos e2, if_pos ⟨e2.1, by omega⟩]
                    · rw [if_neg e2, if_neg (fun h => e2 ⟨h.1, by omega⟩)])
                simp [go_sem, -map_replicate, -map_set, -map_append, -map_reverse, -map_take, -map_drop, -map_tail, -any_map, -all_map, -mapM_map, -map_map, slL, szI, ldI, zI, undL, apL, setI, rdI_get, Nat.add_one_le_iff, fillV, zeros1, zeros0, appendD, segV, lvO, goneOf, sliceD, bound, Nat.add_assoc, hh0, hh1, hh2, hh3, hh4, hh5, hh6, hh7, hh8, hh9, hh10, hh11, hh12, hh13, szL, ldL, setCs0, setCs1, setCs2, setCsA2, setCsA3, ldM, fM0, fM1, szM, zM, plM0, plM1, agM, paM, ldJ, fJ0, fJ1, fJ2, szJ, zJ, plJ0, plJ1, plJ2, agJ, paJ, w9]
                repeat refine ⟨by kernel_rfl, by kernel_rfl, ?_⟩
                refine next2 _ ⟨by simp [upd, hh0], by simp [upd, hh1], by simp [upd, hh2], by simp [upd, hh3], by simp [upd, hh6], by simp [upd, hh7], by simp [upd, hh8], by simp [upd, hh9], by simp [upd], by simp [upd, hh13], by simp <;> omega, hR4.same (by simp) (fun _ _ => rfl)⟩
              · refine ⟨by simp [upd, hg0], by simp [upd, hg1], by simp [upd, hg2], by simp [upd, hg3], by simp [upd], by simp [upd], by simp [upd, hg4], by simp [upd, hg5], by simp [upd, hg6], by simp [upd, hg7], by simp [upd, hg8], by simp [upd], by simp [upd], by simp [hg9], by simp <;> omega, (hR'.same (by simp) (fun _ _ => rfl)).cg fun a t ha ht => ?_⟩
                by_cases e1 : a = i
                · subst e1; rw [if_pos rfl, if_neg (by omega), ei]
                · rw [if_neg e1]
            · rintro st' ⟨hg0, hg1, hg2, hg3, hg4, hg5, hg6, hg7, hg8, hg9, hg10, hR'⟩
              rw [show c + 1 + (n - (c + 1)) = n by omega] at hR'
              simp [go_sem, -map_replicate, -map_set, -map_append, -map_reverse, -map_take, -map_drop, -map_tail, -any_map, -all_map, -mapM_map, -map_map, slL, szI, ldI, zI, undL, apL, setI, rdI_get, Nat.add_one_le_iff, fillV, zeros1, zeros0, appendD, segV, lvO, goneOf, sliceD, bound, Nat.add_assoc, hg0, hg1, hg2, hg3, hg4, hg5, hg6, hg7, hg8, hg9, szL, ldL, setCs0, setCs1, setCs2, setCsA2, setCsA3, ldM, fM0, fM1, szM, zM, plM0, plM1, agM, paM, ldJ, fJ0, fJ1, fJ2, szJ, zJ, plJ0, plJ1, plJ2, agJ, paJ, w5]
              repeat refine ⟨by kernel_rfl, by kernel_rfl, ?_⟩
              have hs : ((n - d : Nat) : Int) = (c : Int) + 1 := by omega
              refine next d _ (by omega) ⟨ids2, elM p N2 c, out2, by simp [upd, hg0], by simp [upd, hg1], by simp [upd, hg2], by simp [upd, hg4], by rw [hs]; simp [upd], (hR'.same (by simp) (fun _ _ => rfl)).cg fun a t ha ht => ?_, by omega, elM_rng hp hRN, ro2, hd⟩
              unfold elP elM
              by_cases e1 : c < a
              · rw [if_pos ⟨e1, ha⟩, if_pos e1]; rfl
              · rw [if_neg (fun h => e1 h.1), if_neg e1]
            · refine ⟨by simp [upd, hf0], by simp [upd, hf1], by simp [upd], by simp [upd], by simp [upd, hf3], by simp [upd, hf4], by simp [upd], by simp [upd], by simp [upd], by simp [upd], by simp <;> omega, ?_⟩
              rw [Nat.add_zero, elP_one]
              refine hRS _ _ (by simp <;> omega) (by simp [upd, hR.hW, eids]) (fun id h1 h2 => ?_)
              have h3 : ¬ id = m + 337 := by omega
              simp [upd, h2, h3]
          · skip
            skip
            rw [if_neg (fun e => hbc e.symm)] at hd
            have ib0 : ¬ ((b - c : Nat) : Int) < 0 := by omega
            have ib1 : (0 : Int) < ((b - c : Nat) : Int) := by omega
            have ib2 : c < b := by omega
            have ib3 : 0 < b - c := by omega
            have w2 : IntKind.i64.wrap ((c : Int) + ((b - c : Nat) : Int)) = (b : Int) := by rw [IntWalk.i64_in _ (by omega)]; omega
            have b0 : (0 : Int) ≤ (b : Int) := by omega
            have bi : (b : Int) < (n : Int) := by omega
            have cs1 : setCs (cellsOf n (refC n ids)) c [V.sl (ids b) 0 0 n] = cellsOf n (upd (refC n ids) c (V.sl (ids b) 0 0 n)) := cells_set _ _ hcn
            have cs2 : setCs (cellsOf n (upd (refC n ids) c (V.sl (ids b) 0 0 n))) b [V.sl (ids c) 0 0 n] = cellsOf n (upd (upd (refC n ids) c (V.sl (ids b) 0 0 n)) b (V.sl (ids c) 0 0 n)) := cells_set _ _ hbn2
            have cl1 := cells_len n (upd (refC n ids) c (V.sl (ids b) 0 0 n))
            have cl2 := cells_len n (upd (upd (refC n ids) c (V.sl (ids b) 0 0 n)) b (V.sl (ids c) 0 0 n))
            have ue1 : upd (upd (refC n ids) c (V.sl (ids b) 0 0 n)) b (V.sl (ids c) 0 0 n) c = V.sl (ids b) 0 0 n := by unfold upd; split <;> simp_all
            have w3 : IntKind.i64.wrap (-out) = -out := IntWalk.i64_in _ (by omega)
            have gm := upS (run_mod p (-out) hp)
            have rc := hR.row b hbn2
            unfold rowOb at rc
            have nm : ¬ ids b = m + 337 := by have := hR.lt b hbn2; omega
            have nw : ¬ ids b = 208 := hR.ne b hbn2
            have tlc := tab_len n (N b)
            have trc : rdI (tab n (N b)) c = N b c := tab_rd hcn
            have hx := hN b c hbn2 hcn
            have ro : 0 ≤ ((-out) % p) ∧ ((-out) % p) < p := mod_small hp _
            have pm := mul_small (p := 10007) (by omega) (show 0 ≤ ((-out) % p) ∧ ((-out) % p) < 10007 by omega) (show 0 ≤ N b c ∧ N b c < 10007 by omega)
            have w4 : IntKind.i64.wrap (((-out) % p) * N b c) = ((-out) % p) * N b c := IntWalk.i64_in _ (by omega)
            have gmul := upS (run_mul p ((-out) % p) (N b c) hp w4)
            have w5 : IntKind.i64.wrap ((c : Int) + 1) = (c : Int) + 1 := IntWalk.i64_in _ (by omega)
            have c1n : c + 1 ≤ n := by omega
            have c1i : (0 : Int) ≤ (c : Int) + 1 := by omega
            have c1t : ((c : Int) + 1).toNat = c + 1 := by omega
            simp [go_sem, -map_replicate, -map_set, -map_append, -map_reverse, -map_take, -map_drop, -map_tail, -any_map, -all_map, -mapM_map, -map_map, slL, szI, ldI, zI, undL, apL, setI, rdI_get, Nat.add_one_le_iff, fillV, zeros1, zeros0, appendD, segV, lvO, goneOf, sliceD, bound, Nat.add_assoc, hf0, hf1, hf2, hf3, hf4, szL, ldL, setCs0, setCs1, setCs2, setCsA2, setCsA3, ldM, fM0, fM1, szM, zM, plM0, plM1, agM, paM, ldJ, fJ0, fJ1, fJ2, szJ, zJ, plJ0, plJ1, plJ2, agJ, paJ, hbc, ib0, ib1, ib2, ib3, w2, b0, bi, hbn2, cs1, cs2, cl1, cl2, ue1, w3, gm, hci, hcn, c0, cl, cle, hnc, hcd, hL, hR.hW, hm, x1, fi, cells_ix, refC, rc, nm, nw, tlc, trc, w4, w5, c1n, c1i, c1t, gmul, ldInt2, szInt2, zInt2, zR, slR, undR, apR]
            repeat refine ⟨by kernel_rfl, by kernel_rfl, ?_⟩
            have N2c : (swM N c b) c = N b := (funext fun k => by simp [swM])
            have hlt2 : ∀ j, j < n → (fun j => if j = b then ids c else if j = c then ids b else ids j) j < m + 209 := fun j hj => by
              have h1 := hR.lt j hj
              have h2 := hR.lt c hcn
              have h3 := hR.lt b hbn2
              try dsimp only
              (repeat' split) <;> omega
            have hRN : rngM p n (swM N c b) := swM_rng hN hcn hbn2
            have hRS : ∀ (H' : Nat → Option Ob) (nx' : Nat), st.nx ≤ nx' → H' 208 = some ⟨0, 2, 1, cellsOf n (upd (upd (refC n ids) c (V.sl (ids b) 0 0 n)) b (V.sl (ids c) 0 0 n))⟩ → (∀ id, id < st.nx → id ≠ 208 → H' id = st.H id) → RowsAt H' nx' 208 n (fun j => if j = b then ids c else if j = c then ids b else ids j) (swM N c b) := fun H' nx' h1 h2 h3 => hR.swap h1 hcn hbn2 h2 h3
            have ro2 := mod_small hp (((-out) % p) * N b c)
            generalize ((-out) % p) * N b c % p = out2 at *
            obtain ⟨ids2, eids⟩ : ∃ x, (fun j => if j = b then ids c else if j = c then ids b else ids j) = x := ⟨_, rfl⟩
            obtain ⟨N2, eN⟩ : ∃ x, (swM N c b) = x := ⟨_, rfl⟩
            rw [eids] at hlt2 hRS
            rw [eN] at hRN hRS hd
            rw [WL_loop]
            refine WL_count (I := fun q st' => st'.fr 0 = .int .i64 p ∧ st'.fr 5 = .sl 208 0 0 n ∧ st'.fr 8 = .int .i64 out2 ∧ st'.fr 9 = .ptr (m + 337) 0 0 ∧ st'.fr 34 = .int .i64 n ∧ st'.fr 35 = .int .i64 (c : Int) ∧ st'.fr 82 = .sl 208 0 (c + 1) (n - (c + 1)) ∧ st'.fr 83 = .int .i64 ((n - (c + 1) : Nat) : Int) ∧ st'.fr 84 = .int .i64 (q : Int) ∧ st'.H (m + 337) = some (⟨0, 1, 1, [.int .i64 (c : Int)]⟩) ∧ m + 337 < st'.nx ∧ RowsAt st'.H st'.nx 208 n ids2 (elP p N2 c (c + 1 + q))) (n - (c + 1)) ?_ ?_ 0 _ (by omega) ?_
            · rintro q st' hq ⟨hg0, hg1, hg2, hg3, hg4, hg5, hg6, hg7, hg8, hg9, hg10, hR'⟩ next2
              obtain ⟨i, hi⟩ : ∃ i, c + 1 + q = i := ⟨_, rfl⟩
              have hi' : c + 1 + (q + 1) = i + 1 := by omega
              rw [hi'] at next2
              rw [hi] at hR'
              have hin : i < n := by omega
              have hqi : (q : Int) < ((n - (c + 1) : Nat) : Int) := by omega
              have hqn : q < n - (c + 1) := hq
              have q0 : (0 : Int) ≤ (q : Int) := by omega
              have q1 : c + (1 + q) = i := by omega
              have ei : elP p N2 c i i = N2 i := by unfold elP; rw [if_neg (by omega)]
              have ec : elP p N2 c i c = N2 c := by unfold elP; rw [if_neg (by omega)]
              have ri := hR'.row i hin
              have rcc := hR'.row c hcn
              rw [ei] at ri
              rw [ec] at rcc
              unfold rowOb at ri rcc
              have ni : ¬ ids2 i = m + 337 := by have := hlt2 i hin; omega
              have nc : ¬ ids2 c = m + 337 := by have := hlt2 c hcn; omega
              have nci : ¬ ids2 c = ids2 i := fun e => by have := hR'.inj c i hcn hin e; omega
              have ni8 : ¬ ids2 i = 208 := hR'.ne i hin
              have nc8 : ¬ ids2 c = 208 := hR'.ne c hcn
              have tli := tab_len n (N2 i)
              have tlc2 := tab_len n (N2 c)
              have tri : rdI (tab n (N2 i)) c = N2 i c := tab_rd hcn
              have trc2 : rdI (tab n (N2 c)) c = N2 c c := tab_rd hcn
              have rx := hRN i c hin hcn
              have ry := hRN c c hcn hcn
              have gdiv := upS (run_div p (N2 i c) (N2 c c) hp rx ry)
              have rtm := divP_range hp (N2 i c) (N2 c c)
              have ev : ∀ k, elN p N2 c i k = (N2 i k - divP p (N2 i c) (N2 c c) * N2 c k) % p := fun k => rfl
              generalize divP p (N2 i c) (N2 c c) = tm at *
              have cln := cells_len n (refC n ids2)
              simp [go_sem, -map_replicate, -map_set, -map_append, -map_reverse, -map_take, -map_drop, -map_tail, -any_map, -all_map, -mapM_map, -map_map, slL, szI, ldI, zI, undL, apL, setI, rdI_get, Nat.add_one_le_iff, fillV, zeros1, zeros0, appendD, segV, lvO, goneOf, sliceD, bound, Nat.add_assoc, hg0, hg1, hg2, hg3, hg4, hg5, hg6, hg7, hg8, hg9, szL, ldL, setCs0, setCs1, setCs2, setCsA2, setCsA3, ldM, fM0, fM1, szM, zM, plM0, plM1, agM, paM, ldJ, fJ0, fJ1, fJ2, szJ, zJ, plJ0, plJ1, plJ2, agJ, paJ, hqi, hqn, q0, q1, hin, hci, hcn, c0, hR'.hW, ri, rcc, ni, nc, ni8, nc8, tli, tlc2, tri, trc2, gdiv, cln, cells_ix, refC, ldInt2, szInt2, zInt2, zR, slR, undR, apR]
              repeat refine ⟨by kernel_rfl, by kernel_rfl, ?_⟩
              rw [WL_loop]
              refine WL_count (I := fun k st'' => st''.fr 0 = .int .i64 p ∧ st''.fr 5 = .sl 208 0 0 n ∧ st''.fr 8 = .int .i64 out2 ∧ st''.fr 9 = .ptr (m + 337) 0 0 ∧ st''.fr 12 = .sl (ids2 i) 0 0 n ∧ st''.fr 13 = .int .i64 tm ∧ st''.fr 34 = .int .i64 n ∧ st''.fr 35 = .int .i64 (c : Int) ∧ st''.fr 82 = .sl 208 0 (c + 1) (n - (c + 1)) ∧ st''.fr 83 = .int .i64 ((n - (c + 1) : Nat) : Int) ∧ st''.fr 84 = .int .i64 (q : Int) ∧ st''.fr 102 = .int .i64 n ∧ st''.fr 103 = .int .i64 (k : Int) ∧ st''.H (m + 337) = some (⟨0, 1, 1, [.int .i64 (c : Int)]⟩) ∧ m + 337 < st''.nx ∧ RowsAt st''.H st''.nx 208 n ids2 (fun j => if j = i then (fun t => if t < k then elN p N2 c i t else N2 i t) else elP p N2 c i j)) n ?_ ?_ 0 _ (by omega) ?_
              · rintro k st'' hk ⟨hh0, hh1, hh2, hh3, hh4, hh5, hh6, hh7, hh8, hh9, hh10, hh11, hh12, hh13, hh14, hR3⟩ next3
                have kn : (k : Int) < (n : Int) := by omega
                have k0 : (0 : Int) ≤ (k : Int) := by omega
                have ri3 := hR3.row i hin
                have rc3 := hR3.row c hcn
                rw [if_pos rfl] at ri3
                rw [if_neg (by omega), ec] at rc3
                unfold rowOb at ri3 rc3
                have tl3 := tab_len n (fun t => if t < k then elN p N2 c i t else N2 i t)
                have tr3 : rdI (tab n (fun t => if t < k then elN p N2 c i t else N2 i t)) k = N2 i k := by rw [tab_rd hk, if_neg (by omega)]
                have trc3 : rdI (tab n (N2 c)) k = N2 c k := tab_rd hk
                have ts : (tab n (fun t => if t < k then elN p N2 c i t else N2 i t)).set k ((N2 i k - tm * N2 c k) % p) = tab n (fun t => if t < k + 1 then elN p N2 c i t else N2 i t) := by
                  rw [tab_set]
                  refine tab_ext fun t ht => ?_
                  by_cases e1 : k = t
                  · subst e1; rw [if_pos rfl, if_pos (by omega), ev]
                  · rw [if_neg e1]
                    by_cases e2 : t < k
                    · rw [if_pos e2, if_pos (by omega)]
                    · rw [if_neg e2, if_neg (by omega)]
                have rx3 := hRN i k hin hk
                have ry3 := hRN c k hcn hk
                have pm3 := mul_small (p := 10007) (by omega) (show 0 ≤ tm ∧ tm < 10007 by omega) (show 0 ≤ N2 c k ∧ N2 c k < 10007 by omega)
                have w6 : IntKind.i64.wrap (tm * N2 c k) = tm * N2 c k := IntWalk.i64_in _ (by omega)
                have w7 : IntKind.i64.wrap (N2 i k - tm * N2 c k) = N2 i k - tm * N2 c k := IntWalk.i64_in _ (by omega)
                have w8 : IntKind.i64.wrap ((k : Int) + 1) = (k : Int) + 1 := IntWalk.i64_in _ (by omega)
                have hmod := upS (run_mod p (N2 i k - tm * N2 c k) hp)
                have hput := fun H' nx' (h1 : st''.nx ≤ nx') (h2 : H' (ids2 i) = some (rowOb n (fun t => if t < k + 1 then elN p N2 c i t else N2 i t))) h3 => (hR3.put (H' := H') h1 hin h2 h3).cg (N' := fun j => if j = i then (fun t => if t < k + 1 then elN p N2 c i t else N2 i t) else elP p N2 c i j) (fun a t _ _ => by
                  by_cases e1 : a = i
                  · rw [if_pos e1, if_pos e1]
                  · rw [if_neg e1, if_neg e1, if_neg e1])
                have hW3 := hR3.hW
                generalize tab n (fun t => if t < k then elN p N2 c i t else N2 i t) = T at *
                simp [go_sem, -map_replicate, -map_set, -map_append, -map_reverse, -map_take, -map_drop, -map_tail, -any_map, -all_map, -mapM_map, -map_map, slL, szI, ldI, zI, undL, apL, setI, rdI_get, Nat.add_one_le_iff, fillV, zeros1, zeros0, appendD, segV, lvO, goneOf, sliceD, bound, Nat.add_assoc, hh0, hh1, hh2, hh3, hh4, hh5, hh6, hh7, hh8, hh9, hh10, hh11, hh12, hh13, szL, ldL, setCs0, setCs1, setCs2, setCsA2, setCsA3, ldM, fM0, fM1, szM, zM, plM0, plM1, agM, paM, ldJ, fJ0, fJ1, fJ2, szJ, zJ, plJ0, plJ1, plJ2, agJ, paJ, kn, k0, hk, hin, hci, hcn, c0, hW3, ri3, rc3, ni, nc, nci, ni8, nc8, tl3, tlc2, tr3, trc3, ts, w6, w7, w8, hmod, cln, cells_ix, refC, ldInt2, szInt2, zInt2, zR, slR, undR, apR]
                repeat refine ⟨by kernel_rfl, by kernel_rfl, ?_⟩
                have ni' : ¬ m + 337 = ids2 i := fun e => ni e.symm
                refine next3 _ ⟨by simp [upd, hh0], by simp [upd, hh1], by simp [upd, hh2], by simp [upd, hh3], by simp [upd, hh4], by simp [upd, hh5], by simp [upd, hh6], by simp [upd, hh7], by simp [upd, hh8], by simp [upd, hh9], by simp [upd, hh10], by simp [upd, hh11], by simp [upd], by simp [upd, ni', hh13], by simp <;> omega, hput _ _ (by simp) (by simp [upd, rowOb]) (fun id h e => upd_ne _ _ _ _ e)⟩
              · rintro st'' ⟨hh0, hh1, hh2, hh3, hh4, hh5, hh6, hh7, hh8, hh9, hh10, hh11, hh12, hh13, hh14, hR3⟩
                have w9 : IntKind.i64.wrap ((q : Int) + 1) = (q : Int) + 1 := IntWalk.i64_in _ (by omega)
                have hR4 := hR3.cg (N' := elP p N2 c (i + 1)) (fun a t ha ht => by
                  by_cases e1 : a = i
                  · subst e1
                    rw [if_pos rfl, if_pos ht]
                    unfold elP
                    rw [if_pos ⟨by omega, by omega⟩]
                  · rw [if_neg e1]
                    unfold elP
                    by_cases e2 : c < a ∧ a < i
                    · rw [if_pos e2, if_pos ⟨e2.1, by omega⟩]
                    · rw [if_neg e2, if_neg (fun h => e2 ⟨h.1, by omega⟩)])
                simp [go_sem, -map_replicate, -map_set, -map_append, -map_reverse, -map_take, -map_drop, -map_tail, -any_map, -all_map, -mapM_map, -map_map, slL, szI, ldI, zI, undL, apL, setI, rdI_get, Nat.add_one_le_iff, fillV, zeros1, zeros0, appendD, segV, lvO, goneOf, sliceD, bound, Nat.add_assoc, hh0, hh1, hh2, hh3, hh4, hh5, hh6, hh7, hh8, hh9, hh10, hh11, hh12, hh13, szL, ldL, setCs0, setCs1, setCs2, setCsA2, setCsA3, ldM, fM0, fM1, szM, zM, plM0, plM1, agM, paM, ldJ, fJ0, fJ1, fJ2, szJ, zJ, plJ0, plJ1, plJ2, agJ, paJ, w9]
                repeat refine ⟨by kernel_rfl, by kernel_rfl, ?_⟩
                refine next2 _ ⟨by simp [upd, hh0], by simp [upd, hh1], by simp [upd, hh2], by simp [upd, hh3], by simp [upd, hh6], by simp [upd, hh7], by simp [upd, hh8], by simp [upd, hh9], by simp [upd], by simp [upd, hh13], by simp <;> omega, hR4.same (by simp) (fun _ _ => rfl)⟩
              · refine ⟨by simp [upd, hg0], by simp [upd, hg1], by simp [upd, hg2], by simp [upd, hg3], by simp [upd], by simp [upd], by simp [upd, hg4], by simp [upd, hg5], by simp [upd, hg6], by simp [upd, hg7], by simp [upd, hg8], by simp [upd], by simp [upd], by simp [hg9], by simp <;> omega, (hR'.same (by simp) (fun _ _ => rfl)).cg fun a t ha ht => ?_⟩
                by_cases e1 : a = i
                · subst e1; rw [if_pos rfl, if_neg (by omega), ei]
                · rw [if_neg e1]
            · rintro st' ⟨hg0, hg1, hg2, hg3, hg4, hg5, hg6, hg7, hg8, hg9, hg10, hR'⟩
              rw [show c + 1 + (n - (c + 1)) = n by omega] at hR'
              simp [go_sem, -map_replicate, -map_set, -map_append, -map_reverse, -map_take, -map_drop, -map_tail, -any_map, -all_map, -mapM_map, -map_map, slL, szI, ldI, zI, undL, apL, setI, rdI_get, Nat.add_one_le_iff, fillV, zeros1, zeros0, appendD, segV, lvO, goneOf, sliceD, bound, Nat.add_assoc, hg0, hg1, hg2, hg3, hg4, hg5, hg6, hg7, hg8, hg9, szL, ldL, setCs0, setCs1, setCs2, setCsA2, setCsA3, ldM, fM0, fM1, szM, zM, plM0, plM1, agM, paM, ldJ, fJ0, fJ1, fJ2, szJ, zJ, plJ0, plJ1, plJ2, agJ, paJ, w5]
              repeat refine ⟨by kernel_rfl, by kernel_rfl, ?_⟩
              have hs : ((n - d : Nat) : Int) = (c : Int) + 1 := by omega
              refine next d _ (by omega) ⟨ids2, elM p N2 c, out2, by simp [upd, hg0], by simp [upd, hg1], by simp [upd, hg2], by simp [upd, hg4], by rw [hs]; simp [upd], (hR'.same (by simp) (fun _ _ => rfl)).cg fun a t ha ht => ?_, by omega, elM_rng hp hRN, ro2, hd⟩
              unfold elP elM
              by_cases e1 : c < a
              · rw [if_pos ⟨e1, ha⟩, if_pos e1]; rfl
              · rw [if_neg (fun h => e1 h.1), if_neg e1]
            · refine ⟨by simp [upd, hf0], by simp [upd, hf1], by simp [upd], by simp [upd], by simp [upd, hf3], by simp [upd, hf4], by simp [upd], by simp [upd], by simp [upd], by simp [upd], by simp <;> omega, ?_⟩
              rw [Nat.add_zero, elP_one]
              refine hRS _ _ (by simp <;> omega) (by simp [upd, hR.hW, eids]) (fun id h1 h2 => ?_)
              have h3 : ¬ id = m + 337 := by omega
              simp [upd, h2, h3]
    · refine ⟨ids, M, 1, ?_⟩
      simp [upd, he0, he1, he2, he3, he4, he5]
      exact ⟨hR.same (by omega) (fun _ _ => rfl), hr, by omega, hD⟩
  · refine ⟨fun _ => 0, ?_⟩
    simp [upd]
end Go.Proofs.Ytacfkfdnncgjcaa.Ev

set_option linter.unusedSimpArgs false
set_option linter.unusedVariables false
namespace Go.Proofs.Ytacfkfdnncgjcaa.Ev
open Go Go.Proofs
open List (map_replicate map_set map_append map_reverse map_take map_drop map_tail any_map all_map mapM_map map_map)
set_option maxRecDepth 4000
set_option maxHeartbeats 4000000
attribute [local bitvec_to_nat] slL szI ldI zI undL apL setI rdI_get Nat.add_one_le_iff fillV zeros1 zeros0 appendD segV lvO goneOf sliceD bound Nat.add_assoc szL ldL setCs0 setCs1 setCs2 setCsA2 setCsA3 ldM fM0 fM1 szM zM plM0 plM1 agM paM ldJ fJ0 fJ1 fJ2 szJ zJ plJ0 plJ1 plJ2 agJ paJ

theorem dtF_dtN {p : Int} {n : Nat} : ∀ (d : Nat) (M M' : Nat → Nat → Int) (out : Int), d ≤ n → (∀ i k, i < n → k < n → M i k = M' i k) → okN p n d M' → dtF p n d M out = dtN p n d M' out
  | 0, _, _, _, _, _, _ => rfl
  | d + 1, M, M', out, hd, hM, hk => by
    obtain ⟨c, hc⟩ : ∃ c, n - (d + 1) = c := ⟨_, rfl⟩
    unfold okN at hk
    unfold dtF dtN
    simp only [hc] at hk ⊢
    have hcn : c < n := by omega
    have e := hM c c hcn hcn
    by_cases z : M' c c = 0
    · rw [if_pos z]
      have hb1 := pvF_le M c n (d + 1) (by omega)
      have hba := pvF_at M c n (d + 1) (by omega)
      by_cases hb : pvF M c n (d + 1) < n
      · exfalso
        refine hba hb ?_
        rw [hM _ c hb hcn]
        by_cases q : pvF M c n (d + 1) = c
        · rw [q]; exact z
        · exact hk.1 z _ (by omega) hb
      · rw [if_pos (by omega)]
    · have hb : pvF M c n (d + 1) = c := by
        unfold pvF
        rw [hc, if_neg (by rw [e]; exact z)]
      rw [if_neg z, hb, if_neg (by omega), if_pos rfl, swM_self, e]
      refine dtF_dtN d _ _ _ (by omega) (fun i k hi hk2 => ?_) (hk.2 z)
      unfold elM elP elN
      by_cases h : c < i
      · rw [if_pos h, if_pos ⟨h, hi⟩, hM i k hi hk2, hM i c hi hcn, hM c c hcn hcn, hM c k hcn hk2]
      · rw [if_neg h, if_neg (fun q => h q.1), hM i k hi hk2]
theorem dtF_ok {p : Int} {l : List Int} {n : Nat} (h : okN p n n (hkM l)) : dtF p n n (hkM l) 1 = dtN p n n (hkM l) 1 := dtF_dtN n _ _ 1 (Nat.le_refl _) (fun _ _ _ _ => rfl) h
section
variable {ord : List Nat} {H : Nat → Option Ob} {d n : Nat} {cs : List V} (r : List (List Int))
theorem ordIds_LV : (r.map LV).flatMap (idsF d) = [] := flatMap_leaf (fun _ => by cases d <;> rfl) r
theorem ordRen_LV : (r.map LV).map (renC ord H) = r.map LV := by
  rw [List.map_map]; exact List.map_congr_left fun a _ => rfl
theorem ordIds_LVapp : (r.map LV ++ [V.list n cs]).flatMap (idsF d) = [] := by
  rw [List.flatMap_append, ordIds_LV]; cases d <;> rfl
theorem ordRen_LVapp : (r.map LV ++ [V.list n cs]).map (renC ord H) = r.map LV ++ [V.list n cs] := by
  rw [List.map_append, ordRen_LV]; rfl
theorem any_hasU_LVl : (r.map LV).any hasU = false := any_leaf (fun _ => rfl) r
end
theorem hkR_succL (l : List Int) (k i : Nat) : (hkR l k (i + 1)).map LV = (hkR l k i).map LV ++ [V.list k ((tab k (hkM l i)).map (V.int .i64))] := by
  unfold hkR
  rw [List.range_succ, List.map_append, List.map_append]
  simp [LV, tab_len]
theorem run_hankel (p : Int) (l : List Int) (k : Nat) (hm : momB p l = true) (hk : 2 * k ≤ l.length + 1) :
    runv E1 143 [(V.agg [V.int .i64 (p), (V.list (List.length (l)) (List.map (V.int .i64) (l)))]), .int .i64 (k : Int)] = some ⟨true, .int .i64 (dtF p k k (hkM l) 1), [.agg [.undef, .undef], .undef]⟩ := by
  have hp := momB_prime hm
  have hml := momB_len hm
  have g0 := up (run_Mfield p l)
  have gd := up2 (run_determinant p k (hkM l) hp (by omega) (fun i t hi ht => momB_rd hm (by omega)))
  rw [← hkR_full] at gd
  have cdk : codeOk Try.f143.ntmps (Try.f143.body.getD .skip) = true := by kernel_rfl
  refine run_of_WLr (fn := Try.f143) rfl Try.func143 rfl ⟨by simp [Try.ntmps143], by simp [wideA, ints], cdk, by simp [Try.f143]⟩ rfl (by simp [rebOk, noId, adoptT, adoptA, adoptL, adoptC, depth]) ?_
  simp [go_sem, -map_replicate, -map_set, -map_append, -map_reverse, -map_take, -map_drop, -map_tail, -any_map, -all_map, -mapM_map, -map_map, bitvec_to_nat]
  repeat refine ⟨by kernel_rfl, by kernel_rfl, ?_⟩
  rw [WL_loop]
  refine WL_for (keep := [1, 2, 5, 7, 8]) (rs := resM Try.f143) rfl (by kernel_rfl) (fun x => match x with | 0 => mkSt [(1, .int .i64 (k : Int)), (2, .ptr 0 0 0), (5, .nils), (7, .int .i64 (k : Int)), (8, .int .i64 0)] [some (⟨0, 1, 1, [.int .i64 p, (V.list (List.length (l)) (List.map (V.int .i64) (l)))]⟩)] (resM Try.f143) | i + 1 => mkSt [(1, .int .i64 (k : Int)), (2, .ptr 0 0 0), (5, .sl 1 0 0 (i + 1)), (7, .int .i64 (k : Int)), (8, .int .i64 ((i : Int) + 1))] [some (⟨0, 1, 1, [.int .i64 p, (V.list (List.length (l)) (List.map (V.int .i64) (l)))]⟩), some (⟨0, 2, 1, (hkR l k (i + 1)).map LV⟩)] (resM Try.f143)) k ?_ ?_ 0 _ (by omega) rfl ?_
  · intro i hi next
    have tk : List.take k (List.drop i (List.map (V.int .i64) l)) = List.map (V.int .i64) (tab k (hkM l i)) := by
      rw [← List.map_drop, ← List.map_take]
      congr 1
      refine eq_tab (by simp; omega) fun t ht => ?_
      rw [rdI_take ht]
      unfold hkM rdI
      simp
    have kl : i + k ≤ l.length := by omega
    have hs := hkR_succL l k i
    rcases i with _ | i
    · dsimp only at next ⊢
      have k0 : 0 < k := by omega
      have kn0 : (0 : Int) ≤ k := by omega
      have kl' : k ≤ l.length := by omega
      have w1 : IntKind.i64.wrap (k : Int) = k := IntWalk.i64_in _ (by omega)
      rw [List.drop_zero] at tk
      rw [show (hkR l k 0).map LV = [] from rfl, List.nil_append] at hs
      rw [hs] at next
      simp only [Nat.zero_add] at next
      generalize (tab k (hkM l 0)).map (V.int .i64) = T at *
      simp [go_sem, -map_replicate, -map_set, -map_append, -map_reverse, -map_take, -map_drop, -map_tail, -any_map, -all_map, -mapM_map, -map_map, bitvec_to_nat, k0, kn0, kl', w1, tk, zR, zerosR, slR, undR, apR, fillV, wz1]
      repeat refine ⟨by kernel_rfl, by kernel_rfl, ?_⟩
      refine next _ rfl ?_
      (refine canon_mk ?_; simp [method_specs_simp, ordIds_app, ordRen_app, ordIds_app2, ordRen_app2, -map_replicate, -map_set, -map_append, -map_reverse, -map_take, -map_drop, -map_tail, -map_map, wz1])
    · dsimp only at next ⊢
      have k0 : i + 1 < k := hi
      have ki : (i : Int) + 1 < k := by omega
      have kn0 : (0 : Int) ≤ (i : Int) + 1 := by omega
      have kt : ((i : Int) + 1).toNat = i + 1 := by omega
      have w1 : IntKind.i64.wrap ((i : Int) + 1 + k) = (i : Int) + 1 + k := IntWalk.i64_in _ (by omega)
      have kt2 : ((i : Int) + 1 + k).toNat = i + 1 + k := by omega
      have kn2 : (0 : Int) ≤ (i : Int) + 1 + k := by omega
      have w9 : IntKind.i64.wrap ((i : Int) + 1 + 1) = (i : Int) + 1 + 1 := IntWalk.i64_in _ (by omega)
      have e9 : i + 1 + k - (i + 1) = k := by omega
      have e8 : i + 1 ≤ i + 1 + k := by omega
      have e7 : i + 1 + k ≤ l.length := by omega
      have lH := hkR_len l k (i + 1)
      have c3 : (i + 2) * 24 ≤ 140737488355328 := by omega
      rw [hs] at next
      have e6 : i + (1 + k) = i + 1 + k := by omega
      have e5 : i + (1 + k) - (i + 1) = k := by omega
      have e4 : i + (1 + k) ≤ l.length := by omega
      have e3 : i + 1 ≤ i + (1 + k) := by omega
      generalize (tab k (hkM l (i + 1))).map (V.int .i64) = T at *
      simp [go_sem, -map_replicate, -map_set, -map_append, -map_reverse, -map_take, -map_drop, -map_tail, -any_map, -all_map, -mapM_map, -map_map, bitvec_to_nat, k0, ki, kn0, kt, w1, kt2, kn2, w9, e9, e8, e7, e5, e4, e3, lH, c3, tk, zR, zerosR, slR, undR, apR, fillV]
      repeat refine ⟨by kernel_rfl, by kernel_rfl, ?_⟩
      refine next _ rfl ?_
      (refine canon_mk ?_; simp [method_specs_simp, ordIds_app, ordRen_app, ordIds_app2, ordRen_app2, -map_replicate, -map_set, -map_append, -map_reverse, -map_take, -map_drop, -map_tail, -map_map, w9, ordIds_LV, ordRen_LV, ordIds_LVapp, ordRen_LVapp])
  · rcases k with _ | k
    · dsimp only
      rw [show (hkR l 0 0).map LV = [] from rfl] at gd
      simp [go_sem, -map_replicate, -map_set, -map_append, -map_reverse, -map_take, -map_drop, -map_tail, -any_map, -all_map, -mapM_map, -map_map, bitvec_to_nat, g0, gd, zR, slR, undR]
      repeat refine ⟨by kernel_rfl, by kernel_rfl, ?_⟩
      simp [mvcgen_simp, -map_replicate, -map_set, -map_append, -map_reverse, -map_take, -map_drop, -map_tail, -any_map, -all_map, -mapM_map, -map_map, Try.f143, szL, ldL, setCs0, setCs1, setCs2, setCsA2, setCsA3, ldM, fM0, fM1, szM, zM, plM0, plM1, agM, paM, ldJ, fJ0, fJ1, fJ2, szJ, zJ, plJ0, plJ1, plJ2, agJ, paJ]
    · dsimp only
      have lH := hkR_len l (k + 1) (k + 1)
      have tR : List.take (k + 1) (List.map LV (hkR l (k + 1) (k + 1))) = List.map LV (hkR l (k + 1) (k + 1)) := take_map_full (by rw [lH]; exact Nat.le_refl _)
      simp [go_sem, -map_replicate, -map_set, -map_append, -map_reverse, -map_take, -map_drop, -map_tail, -any_map, -all_map, -mapM_map, -map_map, bitvec_to_nat, g0, gd, lH, tR, mapM_purN_LV, flatMap_idsN_LV, zR, slR, undR]
      repeat refine ⟨by kernel_rfl, by kernel_rfl, ?_⟩
      simp [mvcgen_simp, -map_replicate, -map_set, -map_append, -map_reverse, -map_take, -map_drop, -map_tail, -any_map, -all_map, -mapM_map, -map_map, Try.f143, szL, ldL, setCs0, setCs1, setCs2, setCsA2, setCsA3, ldM, fM0, fM1, szM, zM, plM0, plM1, agM, paM, ldJ, fJ0, fJ1, fJ2, szJ, zJ, plJ0, plJ1, plJ2, agJ, paJ]
  · (refine canon_mk ?_; simp [method_specs_simp, ordIds_app, ordRen_app, ordIds_app2, ordRen_app2, -map_replicate, -map_set, -map_append, -map_reverse, -map_take, -map_drop, -map_tail, -map_map])
theorem run_isTold (p : Int) (l : List Int) (k : Int) (hl : l.length ≤ 1000000) :
    runv E1 142 [(V.agg [V.int .i64 (p), (V.list (List.length (l)) (List.map (V.int .i64) (l)))]), .int .i64 k] = some ⟨true, .bool (decide (0 ≤ k) && decide (k ≤ ((l.length : Int) + 1) / 2)), [.agg [.undef, .undef], .undef]⟩ := by
  have g0 := up (run_length l)
  have w2 : IntKind.i64.wrap ((l.length : Int) + 1) = l.length + 1 := IntWalk.i64_in _ (by omega)
  have t1 : ((l.length : Int) + 1).tdiv 2 = ((l.length : Int) + 1) / 2 := Int.tdiv_eq_ediv_of_nonneg (by omega)
  have w3 : IntKind.i64.wrap (((l.length : Int) + 1) / 2) = ((l.length : Int) + 1) / 2 := IntWalk.i64_in _ (by omega)
  have cdk : codeOk Try.f142.ntmps (Try.f142.body.getD .skip) = true := by kernel_rfl
  refine run_of_WLr (fn := Try.f142) rfl Try.func142 rfl ⟨by simp [Try.ntmps142], by simp [wideA, ints], cdk, by simp [Try.f142]⟩ rfl (by simp [rebOk, noId, adoptT, adoptA, adoptL, adoptC, depth]) ?_
  by_cases c : 0 ≤ k
  · simp [go_sem, -map_replicate, -map_set, -map_append, -map_reverse, -map_take, -map_drop, -map_tail, -any_map, -all_map, -mapM_map, -map_map, bitvec_to_nat, g0, w2, t1, w3, c]
    repeat refine ⟨by kernel_rfl, by kernel_rfl, ?_⟩
    simp [mvcgen_simp, -map_replicate, -map_set, -map_append, -map_reverse, -map_take, -map_drop, -map_tail, -any_map, -all_map, -mapM_map, -map_map, Try.f142, c]
  · simp [go_sem, -map_replicate, -map_set, -map_append, -map_reverse, -map_take, -map_drop, -map_tail, -any_map, -all_map, -mapM_map, -map_map, bitvec_to_nat, g0, w2, t1, w3, c]
    repeat refine ⟨by kernel_rfl, by kernel_rfl, ?_⟩
    simp [mvcgen_simp, -map_replicate, -map_set, -map_append, -map_reverse, -map_take, -map_drop, -map_tail, -any_map, -all_map, -mapM_map, -map_map, Try.f142, c]
theorem run_order (p : Int) (l : List Int) (hm : momB p l = true) :
    runv E1 117 [(V.agg [V.int .i64 (p), (V.list (List.length (l)) (List.map (V.int .i64) (l)))])] = some ⟨true, .int .i64 (ordN p l : Int), [.agg [.undef, .undef]]⟩ := by
  have hp := momB_prime hm
  have hl := momB_len hm
  obtain ⟨h, hh⟩ : ∃ h : Nat, (l.length + 1) / 2 = h := ⟨_, rfl⟩
  have hN := ordN_le p l
  have h2 : ordN p l < h → dtN p (ordN p l + 1) (ordN p l + 1) (hkM l) 1 = 0 := fun c => ordN_zero (by omega)
  have hank : ∀ n : Nat, n < h → n ≤ ordN p l → runv E1 143 [(V.agg [V.int .i64 (p), (V.list (List.length (l)) (List.map (V.int .i64) (l)))]), .int .i64 ((n : Int) + 1)] = some ⟨true, .int .i64 (dtN p (n + 1) (n + 1) (hkM l) 1), [.agg [.undef, .undef], .undef]⟩ := fun n hn hn2 => by
    have r := run_hankel p l (n + 1) hm (by omega)
    rw [dtF_ok (ord_ok hm (by omega)), show ((n + 1 : Nat) : Int) = (n : Int) + 1 by omega] at r
    exact r
  have told : ∀ n : Nat, runv E1 142 [(V.agg [V.int .i64 (p), (V.list (List.length (l)) (List.map (V.int .i64) (l)))]), .int .i64 ((n : Int) + 1)] = some ⟨true, .bool (decide (n < h)), [.agg [.undef, .undef], .undef]⟩ := fun n => by
    have r := run_isTold p l ((n : Int) + 1) (by omega)
    rw [show (decide ((0 : Int) ≤ (n : Int) + 1) && decide ((n : Int) + 1 ≤ ((l.length : Int) + 1) / 2)) = decide (n < h) by rw [decide_eq_true (by omega : (0 : Int) ≤ (n : Int) + 1), Bool.true_and]; exact decide_eq_decide.2 (by omega)] at r
    exact r
  have h1 : ∀ k, k < ordN p l → dtN p (k + 1) (k + 1) (hkM l) 1 ≠ 0 := fun k hk => ordN_nz hk
  rw [hh] at hN
  generalize ordN p l = N at *
  have cdk : codeOk Try.f117.ntmps (Try.f117.body.getD .skip) = true := by kernel_rfl
  refine run_of_WLr (fn := Try.f117) rfl Try.func117 rfl ⟨by simp [Try.ntmps117], by simp [wideA, ints], cdk, by simp [Try.f117]⟩ rfl (by simp [rebOk, noId, adoptT, adoptA, adoptL, adoptC, depth]) ?_
  simp [go_sem, -map_replicate, -map_set, -map_append, -map_reverse, -map_take, -map_drop, -map_tail, -any_map, -all_map, -mapM_map, -map_map, bitvec_to_nat]
  repeat refine ⟨by kernel_rfl, by kernel_rfl, ?_⟩
  rw [WL_loop]
  refine WL_for (keep := [1, 3]) (rs := resM Try.f117) rfl (by kernel_rfl) (fun i => mkSt [(1, .ptr 0 0 0), (3, .int .i64 (i : Int))] [some (⟨0, 1, 1, [.int .i64 p, (V.list (List.length (l)) (List.map (V.int .i64) (l)))]⟩)] (resM Try.f117)) N ?_ ?_ 0 _ (by omega) rfl ?_
  · intro i hi next
    have w4 : IntKind.i64.wrap ((i : Int) + 1) = (i : Int) + 1 := IntWalk.i64_in _ (by omega)
    have g0 := told i
    rw [decide_eq_true (by omega : i < h)] at g0
    have g1 := hank i (by omega) (by omega)
    have z := h1 i hi
    generalize dtN p (i + 1) (i + 1) (hkM l) 1 = x at *
    simp [go_sem, -map_replicate, -map_set, -map_append, -map_reverse, -map_take, -map_drop, -map_tail, -any_map, -all_map, -mapM_map, -map_map, bitvec_to_nat, undI64, undInt, convD, w4, g0, g1, z]
    repeat refine ⟨by kernel_rfl, by kernel_rfl, ?_⟩
    refine next _ rfl ?_
    (refine canon_mk ?_; simp [method_specs_simp, ordIds_app, ordRen_app, ordIds_app2, ordRen_app2, -map_replicate, -map_set, -map_append, -map_reverse, -map_take, -map_drop, -map_tail, -map_map])
  · have w4 : IntKind.i64.wrap ((N : Int) + 1) = (N : Int) + 1 := IntWalk.i64_in _ (by omega)
    have g0 := told N
    by_cases c : N < h
    · rw [decide_eq_true c] at g0
      have g1 := hank N c (Nat.le_refl _)
      rw [h2 c] at g1
      simp [go_sem, -map_replicate, -map_set, -map_append, -map_reverse, -map_take, -map_drop, -map_tail, -any_map, -all_map, -mapM_map, -map_map, bitvec_to_nat, undI64, undInt, convD, w4, g0, g1]
      repeat refine ⟨by kernel_rfl, by kernel_rfl, ?_⟩
      simp [mvcgen_simp, -map_replicate, -map_set, -map_append, -map_reverse, -map_take, -map_drop, -map_tail, -any_map, -all_map, -mapM_map, -map_map, Try.f117, szL, ldL, setCs0, setCs1, setCs2, setCsA2, setCsA3, ldM, fM0, fM1, szM, zM, plM0, plM1, agM, paM, ldJ, fJ0, fJ1, fJ2, szJ, zJ, plJ0, plJ1, plJ2, agJ, paJ]
    · rw [decide_eq_false c] at g0
      simp [go_sem, -map_replicate, -map_set, -map_append, -map_reverse, -map_take, -map_drop, -map_tail, -any_map, -all_map, -mapM_map, -map_map, bitvec_to_nat, undI64, undInt, convD, w4, g0]
      repeat refine ⟨by kernel_rfl, by kernel_rfl, ?_⟩
      simp [mvcgen_simp, -map_replicate, -map_set, -map_append, -map_reverse, -map_take, -map_drop, -map_tail, -any_map, -all_map, -mapM_map, -map_map, Try.f117, szL, ldL, setCs0, setCs1, setCs2, setCsA2, setCsA3, ldM, fM0, fM1, szM, zM, plM0, plM1, agM, paM, ldJ, fJ0, fJ1, fJ2, szJ, zJ, plJ0, plJ1, plJ2, agJ, paJ]
  · (refine canon_mk ?_; simp [method_specs_simp, ordIds_app, ordRen_app, ordIds_app2, ordRen_app2, -map_replicate, -map_set, -map_append, -map_reverse, -map_take, -map_drop, -map_tail, -map_map])
end Go.Proofs.Ytacfkfdnncgjcaa.Ev
