/- The paths one by one, and that they are as many as countPaths says. Conditions: none. -/
/- PathsOf: both texts. Conditions: none. -/
/- Marks of lists of strings; PathsOf. Conditions: none. -/
/- PathsOf: both texts and the law. Conditions: none. -/
import Derived.Test.YtabnganndcmcnaaFnBA
import Derived.Test.YtabnganndcmcnaaFnC
import Derived.Test.YtabnganndcmcnaaFnG
set_option linter.unusedSimpArgs false
set_option linter.unusedVariables false
namespace Go.Proofs.Ytabnganndcmcnaa.Ev
open Go Go.Proofs
open List (map_replicate map_set map_append map_reverse map_take map_drop map_tail any_map all_map mapM_map map_map)
set_option maxRecDepth 4000
set_option maxHeartbeats 4000000

/-- How many paths of n steps lead from i to k between 0 and h. -/
def plc (h : Int) (k : Int) : Nat → Int → Nat
  | 0, i => if 0 ≤ i ∧ i ≤ h ∧ i = k then 1 else 0
  | n + 1, i => if 0 ≤ i ∧ i ≤ h then plc h k n (i - 1) + plc h k n i + plc h k n (i + 1) else 0
theorem plc_out {h k i : Int} (c : ¬ (0 ≤ i ∧ i ≤ h)) : ∀ n, plc h k n i = 0
  | 0 => by rw [plc, if_neg]; omega
  | n + 1 => by rw [plc, if_neg c]
theorem plc_in {h k i : Int} (c : 0 ≤ i ∧ i ≤ h) (n : Nat) : plc h k (n + 1) i = plc h k n (i - 1) + plc h k n i + plc h k n (i + 1) := by rw [plc, if_pos c]
theorem plc_last (h k : Int) : ∀ (n : Nat) (i : Int), plc h k (n + 1) i = if 0 ≤ k ∧ k ≤ h then plc h (k - 1) n i + plc h k n i + plc h (k + 1) n i else 0
  | 0, i => by
    by_cases c : 0 ≤ i ∧ i ≤ h
    · rw [plc_in c]; simp only [plc]; (repeat' split) <;> omega
    · rw [plc_out c, plc_out c, plc_out c, plc_out c]; simp
  | n + 1, i => by
    by_cases c : 0 ≤ i ∧ i ≤ h
    · have e0 := plc_in (k := k) c (n + 1)
      have e1 := plc_in (k := k - 1) c n
      have e2 := plc_in (k := k) c n
      have e3 := plc_in (k := k + 1) c n
      have i1 := plc_last h k n (i - 1)
      have i2 := plc_last h k n i
      have i3 := plc_last h k n (i + 1)
      by_cases ck : 0 ≤ k ∧ k ≤ h
      · rw [if_pos ck] at i1 i2 i3 ⊢; omega
      · rw [if_neg ck] at i1 i2 i3 ⊢; omega
    · rw [plc_out c, plc_out c, plc_out c, plc_out c]; simp
theorem plc_le (h k : Int) : ∀ (n : Nat) (i : Int), plc h k n i ≤ 3 ^ n
  | 0, i => by rw [plc]; split <;> omega
  | n + 1, i => by
    have h1 := plc_le h k n (i - 1)
    have h2 := plc_le h k n i
    have h3 := plc_le h k n (i + 1)
    rw [plc]; split <;> omega
theorem plc_far {h k : Int} : ∀ (n : Nat) (i : Int), (n : Int) < i - k ∨ (n : Int) < k - i → plc h k n i = 0
  | 0, i, c => by rw [plc, if_neg]; omega
  | n + 1, i, c => by
    rw [plc]
    split
    · rw [plc_far n (i - 1) (by omega), plc_far n i (by omega), plc_far n (i + 1) (by omega)]
    · rfl
theorem plc_kout {h k : Int} (c : ¬ (0 ≤ k ∧ k ≤ h)) : ∀ (n : Nat) (i : Int), plc h k n i = 0
  | 0, i => by rw [plc, if_neg]; omega
  | n + 1, i => by rw [plc_last, if_neg c]

theorem rdI_put {l : List Int} {i : Nat} {x : Int} (h : i < l.length) (j : Nat) : rdI (l.set i x) j = if j = i then x else rdI l j := by
  by_cases c : j < l.length
  · rw [rdI_set c]; by_cases e : j = i
    · rw [if_pos e, if_pos e.symm]
    · rw [if_neg e, if_neg (fun q => e q.symm)]
  · rw [if_neg (by omega)]; simp [rdI, List.getElem?_eq_none (by omega : l.length ≤ j), List.getElem?_eq_none (by simp; omega : (l.set i x).length ≤ j)]
theorem rdI_zero (n j : Nat) : rdI (List.replicate n (0 : Int)) j = 0 := by
  simp [rdI, List.getD_eq_getElem?_getD, List.getElem?_replicate]; split <;> rfl
theorem bump_rd {l : List Int} {i : Nat} {y : Int} (h : i < l.length) (h0 : 0 ≤ rdI l i + y) (h1 : rdI l i + y ≤ 4611686018427387904) (j : Nat) : rdI (bump l i y) j = rdI l j + if j = i then y else 0 := by
  unfold bump
  rw [rdI_put h, IntWalk.i64_in _ (by omega)]
  split
  · rename_i e; rw [e]
  · omega
theorem spread_rd {l : List Int} {h q : Nat} {x C : Int} (hl : l.length = h + 1) (hq : q ≤ h) (hb : ∀ j, 0 ≤ rdI l j ∧ rdI l j ≤ C) (hx : 0 ≤ x) (hC : C + x ≤ 4611686018427387904) (j : Nat) :
    rdI (spread true h q x l) j = rdI l j + (if j = q then x else 0) + (if 0 < q ∧ j = q - 1 then x else 0) + (if q < h ∧ j = q + 1 then x else 0) := by
  unfold spread
  simp only [if_true]
  have e1 : ∀ j, rdI (bump l q x) j = rdI l j + if j = q then x else 0 := fun j => bump_rd (by omega) (by have := hb q; omega) (by have := hb q; omega) j
  have l1 : (bump l q x).length = h + 1 := by rw [bump_len, hl]
  generalize bump l q x = n1 at *
  have e2 : ∀ j, rdI (if 0 < q then bump n1 (q - 1) x else n1) j = rdI l j + (if j = q then x else 0) + if 0 < q ∧ j = q - 1 then x else 0 := by
    intro j
    by_cases c : 0 < q
    · have e := e1 (q - 1)
      have b := hb (q - 1)
      rw [if_neg (by omega)] at e
      rw [if_pos c, bump_rd (by omega) (by omega) (by omega), e1 j]
      simp only [c, true_and]
    · rw [if_neg c, e1 j]; simp only [c, false_and, if_false]; omega
  have l2 : (if 0 < q then bump n1 (q - 1) x else n1).length = h + 1 := by split <;> simp [bump_len, l1]
  generalize (if 0 < q then bump n1 (q - 1) x else n1) = n2 at *
  by_cases c : q < h
  · have e := e2 (q + 1)
    have b := hb (q + 1)
    rw [if_neg (by omega), if_neg (by omega)] at e
    rw [if_pos c, bump_rd (by omega) (by omega) (by omega), e2 j]
    simp only [c, true_and]
  · rw [if_neg c, e2 j]; simp only [c, false_and, if_false]; omega
theorem spreadTo_rd {D : List Int} {h : Nat} {C : Int} (hb : ∀ j, 0 ≤ rdI D j ∧ rdI D j ≤ C) (hC : 4 * C ≤ 4611686018427387904) : ∀ (q : Nat), q ≤ h + 1 → ∀ j, j ≤ h → rdI (spreadTo true h D q) j = (if j < q then rdI D j else 0) + (if j + 1 < q then rdI D (j + 1) else 0) + (if 0 < j ∧ j - 1 < q then rdI D (j - 1) else 0)
  | 0, _, j, hj => by simp [spreadTo, rdI_zero]
  | q + 1, hq, j, hj => by
    have ih := spreadTo_rd (h := h) hb hC q (by omega)
    have lz := spreadTo_len true h D q
    have bz : ∀ j, 0 ≤ rdI (spreadTo true h D q) j ∧ rdI (spreadTo true h D q) j ≤ 3 * C := by
      intro j
      have b0 := hb j; have b1 := hb (j + 1); have b2 := hb (j - 1)
      by_cases c : j ≤ h
      · rw [ih j c]; (repeat' split) <;> omega
      · rw [show rdI (spreadTo true h D q) j = 0 by simp [rdI, List.getElem?_eq_none (by omega : (spreadTo true h D q).length ≤ j)]]; omega
    have bq := hb q
    rw [spreadTo, spread_rd lz (by omega) bz bq.1 (by omega), ih j hj]
    by_cases c1 : j = q
    · subst c1
      simp; (repeat' split) <;> first | omega | (exfalso; omega)
    · by_cases c2 : j + 1 = q
      · subst c2
        simp; (repeat' split) <;> first | omega | (exfalso; omega)
      · by_cases c3 : j = q + 1
        · subst c3
          simp; (repeat' split) <;> first | omega | (exfalso; omega)
        · have x1 : (j < q + 1) = (j < q) := by simp; omega
          have x2 : (j + 1 < q + 1) = (j + 1 < q) := by simp; omega
          have x3 : (0 < j ∧ j - 1 < q + 1) = (0 < j ∧ j - 1 < q) := by simp; omega
          simp only [x1, x2, x3]
          rw [if_neg c1, if_neg (by omega : ¬ (0 < q ∧ j = q - 1)), if_neg (by omega : ¬ (q < h ∧ j = q + 1))]
          omega
theorem startI_rd (h i j : Nat) (hi : i ≤ h) : rdI (startI h i) j = if j = i then 1 else 0 := by
  unfold startI; rw [rdI_put (by simp; omega)]; split
  · rfl
  · exact rdI_zero ..
theorem dp_plc (h i : Nat) (hi : i ≤ h) : ∀ t, t ≤ 24 → ∀ j, rdI (dpAt true h (startI h i) t) j = (plc h j t i : Int)
  | 0, _, j => by
    rw [dpAt, startI_rd h i j hi, plc]
    by_cases c : j = i
    · rw [if_pos c, if_pos (by omega)]; rfl
    · rw [if_neg c, if_neg (by omega)]; rfl
  | t + 1, ht, j => by
    have ih := dp_plc h i hi t (by omega)
    have hb : ∀ j, 0 ≤ rdI (dpAt true h (startI h i) t) j ∧ rdI (dpAt true h (startI h i) t) j ≤ 282429536481 := by
      intro j; rw [ih j]
      have h1 := plc_le h j t i
      have h2 : 3 ^ t ≤ 3 ^ 24 := Nat.pow_le_pow_right (by omega) (by omega)
      have h3 : (3 : Nat) ^ 24 = 282429536481 := by decide
      omega
    have hl := dpAt_len true h (startI h i) (by simp [startI]) (t + 1)
    by_cases c : j ≤ h
    · rw [dpAt, spreadTo_rd hb (by omega) (h + 1) (Nat.le_refl _) j c, plc_last, if_pos (show 0 ≤ (j : Int) ∧ (j : Int) ≤ (h : Int) by omega), if_pos (show j < h + 1 by omega), ih j]
      have a1 : (if j + 1 < h + 1 then rdI (dpAt true h (startI h i) t) (j + 1) else 0) = (plc h ((j : Int) + 1) t i : Int) := by
        split
        · rw [ih (j + 1)]; rfl
        · rw [plc_kout (by omega)]; rfl
      have a2 : (if 0 < j ∧ j - 1 < h + 1 then rdI (dpAt true h (startI h i) t) (j - 1) else 0) = (plc h ((j : Int) - 1) t i : Int) := by
        split
        · rw [ih (j - 1), show ((j - 1 : Nat) : Int) = (j : Int) - 1 by omega]
        · rw [plc_kout (by omega)]; rfl
      rw [a1, a2]; omega
    · rw [show rdI (dpAt true h (startI h i) (t + 1)) j = 0 by simp [rdI, List.getElem?_eq_none (by omega : (dpAt true h (startI h i) (t + 1)).length ≤ j)], plc_kout (by omega)]; rfl

def putB (c : ByteArray) (l : List ByteArray) : List ByteArray := l.map (c ++ ·)
/-- The paths one by one. -/
def pths (h k : Int) : Nat → Int → List ByteArray
  | 0, i => if 0 ≤ i ∧ i ≤ h ∧ i = k then [⟨#[]⟩] else []
  | n + 1, i => if 0 ≤ i ∧ i ≤ h then putB ⟨#[68]⟩ (pths h k n (i - 1)) ++ putB ⟨#[76]⟩ (pths h k n i) ++ putB ⟨#[85]⟩ (pths h k n (i + 1)) else []
theorem pths_len (h k : Int) : ∀ (n : Nat) (i : Int), (pths h k n i).length = plc h k n i
  | 0, i => by rw [pths, plc]; split <;> rfl
  | n + 1, i => by
    rw [pths, plc]; split
    · simp [putB, pths_len h k n, Nat.add_assoc]
    · rfl
theorem pths_size (h k : Int) : ∀ (n : Nat) (i : Int) (s : ByteArray), s ∈ pths h k n i → s.size = n
  | 0, i, s, hs => by
    rw [pths] at hs; split at hs
    · rw [List.mem_singleton] at hs; subst hs; rfl
    · cases hs
  | n + 1, i, s, hs => by
    rw [pths] at hs
    split at hs
    · simp only [putB, List.mem_append, List.mem_map] at hs
      rcases hs with (⟨t, ht, rfl⟩ | ⟨t, ht, rfl⟩) | ⟨t, ht, rfl⟩
      · have := pths_size h k n _ t ht; rw [ByteArray.size_append, this]; show 1 + n = n + 1; omega
      · have := pths_size h k n _ t ht; rw [ByteArray.size_append, this]; show 1 + n = n + 1; omega
      · have := pths_size h k n _ t ht; rw [ByteArray.size_append, this]; show 1 + n = n + 1; omega
    · cases hs
theorem pths_nil {h k i : Int} {n : Nat} (c : plc h k n i = 0) : pths h k n i = [] := List.eq_nil_of_length_eq_zero (by rw [pths_len, c])
end Go.Proofs.Ytabnganndcmcnaa.Ev

set_option linter.unusedSimpArgs false
set_option linter.unusedVariables false
namespace Go.Proofs.Ytabnganndcmcnaa.Ev
open Go Go.Proofs
open List (map_replicate map_set map_append map_reverse map_take map_drop map_tail any_map all_map mapM_map map_map)
set_option maxRecDepth 4000
set_option maxHeartbeats 4000000

/-! ### Lists of strings -/
section
variable {ord : List Nat} {H : Nat → Option Ob} {d : Nat} (m : List ByteArray) (x : ByteArray)
theorem ordIds_str : (m.map V.str).flatMap (idsF d) = [] := flatMap_leaf (fun _ => by cases d <;> rfl) m
theorem ordRen_str : (m.map V.str).map (renC ord H) = m.map V.str := by
  rw [List.map_map]; exact List.map_congr_left fun a _ => rfl
theorem ordIds_strA : (m.map V.str ++ [V.str x]).flatMap (idsF d) = [] := by
  have := ordIds_str (d := d) (m ++ [x])
  simpa using this
theorem ordRen_strA : (m.map V.str ++ [V.str x]).map (renC ord H) = (m ++ [x]).map V.str := by
  have := ordRen_str (ord := ord) (H := H) (m ++ [x])
  rw [← this]; congr 1; simp
theorem mapM_viewN_str : (m.map V.str).mapM (viewN d) = some (m.map V.str) := mapM_leaf (fun _ => by cases d <;> rfl) m
end
def rdS (l : List ByteArray) (i : Nat) : ByteArray := l.getD i ⟨#[]⟩
theorem rdS_get {l : List ByteArray} {i : Nat} (h : i < l.length) : l[i] = rdS l i := by
  unfold rdS; simp [h]
theorem undStr : Try.prog.underlying 9 = some .string := by kernel_rfl
theorem ldStr : ldT Try.prog 9 = some (false, 1) := by kernel_rfl
theorem szStr : szT Try.prog 9 = some 1 := by kernel_rfl
theorem slStr : slT Try.prog 57 = some (9, 1, 16) := by kernel_rfl
theorem apStr : apT Try.prog 57 = some (9, 1, 16) := by kernel_rfl
theorem undStrS : Try.prog.underlying 57 = some (.slice 9) := by kernel_rfl
theorem zStr : zeroT Try.prog 9 = some [.str ⟨#[]⟩] := by kernel_rfl
theorem ctStr : cellTys Try.prog 9 = [none] := by kernel_rfl
theorem ctStrS : cellTys Try.prog 57 = [some 1] := by kernel_rfl
theorem zerosS0 : zerosV 0 [V.str ⟨#[]⟩] = [] := rfl
theorem zerosS1 : zerosV 1 [V.str ⟨#[]⟩] = [V.str ⟨#[]⟩] := rfl
theorem zerosS3 : zerosV 3 [V.str ⟨#[]⟩] = [V.str ⟨#[]⟩, V.str ⟨#[]⟩, V.str ⟨#[]⟩] := rfl
theorem putB_succ (c : ByteArray) (l : List ByteArray) (a : List ByteArray) {k : Nat} (h : k < l.length) : a ++ putB c (l.take (k + 1)) = (a ++ putB c (l.take k)) ++ [c ++ rdS l k] := by
  rw [List.take_add_one, List.getElem?_eq_getElem h, rdS_get h]
  simp [putB]
theorem pths_le (h k : Int) (n : Nat) (i : Int) (hn : n ≤ 24) : (pths h k n i).length ≤ 282429536481 := by
  rw [pths_len]
  have h1 := plc_le h k n i
  have h2 : 3 ^ n ≤ 3 ^ 24 := Nat.pow_le_pow_right (by omega) hn
  have h3 : (3 : Nat) ^ 24 = 282429536481 := by decide
  omega
theorem rdS_size {h k i : Int} {n x : Nat} (hx : x < (pths h k n i).length) : (rdS (pths h k n i) x).size = n := by
  rw [← rdS_get hx]; exact pths_size h k n i _ (List.getElem_mem hx)

def cT : Nat → ByteArray
  | 0 => ⟨#[68]⟩
  | 1 => ⟨#[76]⟩
  | _ => ⟨#[85]⟩
theorem cT_size (t : Nat) : (cT t).size = 1 := by unfold cT; split <;> rfl
def accP (h k : Int) (n : Nat) (i : Int) : Nat → List ByteArray
  | 0 => []
  | t + 1 => accP h k n i t ++ putB (cT t) (pths h k n (i + ((t : Int) - 1)))
theorem accP_3 {h k : Int} {n : Nat} {i : Int} (c : 0 ≤ i ∧ i ≤ h) : pths h k (n + 1) i = accP h k n i 3 := by
  rw [pths, if_pos c]
  simp only [accP, cT, List.nil_append]
  rw [show i + (((0 : Nat) : Int) - 1) = i - 1 by omega, show i + (((1 : Nat) : Int) - 1) = i by omega, show i + (((2 : Nat) : Int) - 1) = i + 1 by omega]
theorem accP_le (h k : Int) (n : Nat) (i : Int) (hn : n ≤ 23) : ∀ t, (accP h k n i t).length ≤ 282429536481 * t
  | 0 => by simp [accP]
  | t + 1 => by
    have h1 := accP_le h k n i hn t
    have h2 := pths_le h k n (i + ((t : Int) - 1)) (by omega)
    rw [accP, List.length_append, putB, List.length_map]; omega
theorem cT_at {t : Nat} (h : t < 3) : [V.str ⟨#[68]⟩, V.str ⟨#[76]⟩, V.str ⟨#[85]⟩][t]? = some (V.str (cT t)) := by
  rcases t with _ | _ | _ | t
  · rfl
  · rfl
  · rfl
  · omega
theorem run_l09Paths0 (k h i : Nat) (hk : k ≤ 24) (hh : h ≤ 24) (hi : i ≤ 100) : runv E1 164 [.int .i64 (0 : Nat), .int .i64 (i : Nat), .int .i64 k, .int .i64 h] = some ⟨true, .uniq 1 (pths h k 0 i).length ((pths h k 0 i).map V.str), [.undef, .undef, .undef, .undef]⟩ := by
  have w1 : IntKind.i64.wrap ((i : Int) - k) = (i : Int) - k := IntWalk.i64_in _ (by omega)
  have w2 : IntKind.i64.wrap ((k : Int) - i) = (k : Int) - i := IntWalk.i64_in _ (by omega)
  have cdk : codeOk Try.f164.ntmps (Try.f164.body.getD .skip) = true := by kernel_rfl
  refine run_of_WLr (fn := Try.f164) rfl Try.func164 rfl ⟨by simp [Try.ntmps164], by simp [wideA, ints], cdk, by simp [Try.f164]⟩ rfl (by simp [rebOk, noId, adoptT, adoptA, adoptL, adoptC, depth]) ?_
  by_cases c1 : (h : Int) < i
  · have hps : pths h k 0 i = [] := pths_nil (plc_out (by omega) _)
    have c1' : h < i := by omega
    simp [go_sem, -map_replicate, -map_set, -map_append, -map_reverse, -map_take, -map_drop, -map_tail, -any_map, -all_map, -mapM_map, -map_map, slL, szI, ldI, zI, undL, apL, setI, rdI_get, Nat.add_one_le_iff, fillV, zeros1, zeros0, appendD, segV, lvO, goneOf, sliceD, bound, Nat.add_assoc, szL, ldL, setCs0, setCs1, setCs2, setCsA2, setCsA3, ldM, fM0, fM1, szM, zM, plM0, plM1, agM, paM, ldJ, fJ0, fJ1, fJ2, szJ, zJ, plJ0, plJ1, plJ2, agJ, paJ, c1, c1', w1, w2, undStr, ldStr, szStr, slStr, apStr, undStrS, zStr, zerosS0, zerosS1, zerosS3, mapM_purN_str, flatMap_idsN_str, any_hasU_str]
    simp [mvcgen_simp, -map_replicate, -map_set, -map_append, -map_reverse, -map_take, -map_drop, -map_tail, -any_map, -all_map, -mapM_map, -map_map, Try.f164, hps, ctStr, ctStrS, mapM_expN_str, flatMap_eidN_str, all_treeN_str, any_hasU_str]
  by_cases c2 : (h : Int) < k
  · have hps : pths h k 0 i = [] := pths_nil (plc_kout (by omega) _ _)
    have c2' : h < k := by omega
    have c1' : ¬ h < i := by omega
    simp [go_sem, -map_replicate, -map_set, -map_append, -map_reverse, -map_take, -map_drop, -map_tail, -any_map, -all_map, -mapM_map, -map_map, slL, szI, ldI, zI, undL, apL, setI, rdI_get, Nat.add_one_le_iff, fillV, zeros1, zeros0, appendD, segV, lvO, goneOf, sliceD, bound, Nat.add_assoc, szL, ldL, setCs0, setCs1, setCs2, setCsA2, setCsA3, ldM, fM0, fM1, szM, zM, plM0, plM1, agM, paM, ldJ, fJ0, fJ1, fJ2, szJ, zJ, plJ0, plJ1, plJ2, agJ, paJ, c1, c2, c1', c2', w1, w2, undStr, ldStr, szStr, slStr, apStr, undStrS, zStr, zerosS0, zerosS1, zerosS3, mapM_purN_str, flatMap_idsN_str, any_hasU_str]
    simp [mvcgen_simp, -map_replicate, -map_set, -map_append, -map_reverse, -map_take, -map_drop, -map_tail, -any_map, -all_map, -mapM_map, -map_map, Try.f164, hps, ctStr, ctStrS, mapM_expN_str, flatMap_eidN_str, all_treeN_str, any_hasU_str]
  by_cases c3 : k < i
  · have hps : pths h k 0 i = [] := pths_nil (plc_far _ _ (by omega))
    have c2' : ¬ h < k := by omega
    have c1' : ¬ h < i := by omega
    simp [go_sem, -map_replicate, -map_set, -map_append, -map_reverse, -map_take, -map_drop, -map_tail, -any_map, -all_map, -mapM_map, -map_map, slL, szI, ldI, zI, undL, apL, setI, rdI_get, Nat.add_one_le_iff, fillV, zeros1, zeros0, appendD, segV, lvO, goneOf, sliceD, bound, Nat.add_assoc, szL, ldL, setCs0, setCs1, setCs2, setCsA2, setCsA3, ldM, fM0, fM1, szM, zM, plM0, plM1, agM, paM, ldJ, fJ0, fJ1, fJ2, szJ, zJ, plJ0, plJ1, plJ2, agJ, paJ, c1, c2, c3, c1', c2', w1, w2, undStr, ldStr, szStr, slStr, apStr, undStrS, zStr, zerosS0, zerosS1, zerosS3, mapM_purN_str, flatMap_idsN_str, any_hasU_str]
    simp [mvcgen_simp, -map_replicate, -map_set, -map_append, -map_reverse, -map_take, -map_drop, -map_tail, -any_map, -all_map, -mapM_map, -map_map, Try.f164, hps, ctStr, ctStrS, mapM_expN_str, flatMap_eidN_str, all_treeN_str, any_hasU_str]
  by_cases c4 : i < k
  · have hps : pths h k 0 i = [] := pths_nil (plc_far _ _ (by omega))
    have c2' : ¬ h < k := by omega
    have c1' : ¬ h < i := by omega
    simp [go_sem, -map_replicate, -map_set, -map_append, -map_reverse, -map_take, -map_drop, -map_tail, -any_map, -all_map, -mapM_map, -map_map, slL, szI, ldI, zI, undL, apL, setI, rdI_get, Nat.add_one_le_iff, fillV, zeros1, zeros0, appendD, segV, lvO, goneOf, sliceD, bound, Nat.add_assoc, szL, ldL, setCs0, setCs1, setCs2, setCsA2, setCsA3, ldM, fM0, fM1, szM, zM, plM0, plM1, agM, paM, ldJ, fJ0, fJ1, fJ2, szJ, zJ, plJ0, plJ1, plJ2, agJ, paJ, c1, c2, c3, c4, c1', c2', w1, w2, undStr, ldStr, szStr, slStr, apStr, undStrS, zStr, zerosS0, zerosS1, zerosS3, mapM_purN_str, flatMap_idsN_str, any_hasU_str]
    simp [mvcgen_simp, -map_replicate, -map_set, -map_append, -map_reverse, -map_take, -map_drop, -map_tail, -any_map, -all_map, -mapM_map, -map_map, Try.f164, hps, ctStr, ctStrS, mapM_expN_str, flatMap_eidN_str, all_treeN_str, any_hasU_str]
  · have hps : pths h k 0 i = [⟨#[]⟩] := by rw [pths, if_pos]; omega
    have c2' : ¬ h < k := by omega
    have c1' : ¬ h < i := by omega
    simp [go_sem, -map_replicate, -map_set, -map_append, -map_reverse, -map_take, -map_drop, -map_tail, -any_map, -all_map, -mapM_map, -map_map, slL, szI, ldI, zI, undL, apL, setI, rdI_get, Nat.add_one_le_iff, fillV, zeros1, zeros0, appendD, segV, lvO, goneOf, sliceD, bound, Nat.add_assoc, szL, ldL, setCs0, setCs1, setCs2, setCsA2, setCsA3, ldM, fM0, fM1, szM, zM, plM0, plM1, agM, paM, ldJ, fJ0, fJ1, fJ2, szJ, zJ, plJ0, plJ1, plJ2, agJ, paJ, c1, c2, c3, c4, c1', c2', w1, w2, undStr, ldStr, szStr, slStr, apStr, undStrS, zStr, zerosS0, zerosS1, zerosS3, mapM_purN_str, flatMap_idsN_str, any_hasU_str]
    simp [mvcgen_simp, -map_replicate, -map_set, -map_append, -map_reverse, -map_take, -map_drop, -map_tail, -any_map, -all_map, -mapM_map, -map_map, Try.f164, hps, ctStr, ctStrS, mapM_expN_str, flatMap_eidN_str, all_treeN_str, any_hasU_str]
theorem run_l09PathsS (k h n : Nat) (hk : k ≤ 24) (hh : h ≤ 24) (hn : n + 1 ≤ 24) (ih : ∀ i : Nat, i ≤ 100 → runv E1 164 [.int .i64 (n : Nat), .int .i64 (i : Nat), .int .i64 k, .int .i64 h] = some ⟨true, .uniq 1 (pths h k n i).length ((pths h k n i).map V.str), [.undef, .undef, .undef, .undef]⟩) (i : Nat) (hi : i ≤ 100) : runv E1 164 [.int .i64 (n + 1 : Nat), .int .i64 (i : Nat), .int .i64 k, .int .i64 h] = some ⟨true, .uniq 1 (pths h k (n + 1) i).length ((pths h k (n + 1) i).map V.str), [.undef, .undef, .undef, .undef]⟩ := by
  have w1 : IntKind.i64.wrap ((i : Int) - k) = (i : Int) - k := IntWalk.i64_in _ (by omega)
  have w2 : IntKind.i64.wrap ((k : Int) - i) = (k : Int) - i := IntWalk.i64_in _ (by omega)
  obtain ⟨N, hN⟩ : ∃ N : Nat, N = n + 1 := ⟨_, rfl⟩
  rw [← hN]
  have cdk : codeOk Try.f164.ntmps (Try.f164.body.getD .skip) = true := by kernel_rfl
  refine run_of_WLr (fn := Try.f164) rfl Try.func164 rfl ⟨by simp [Try.ntmps164], by simp [wideA, ints], cdk, by simp [Try.f164]⟩ rfl (by simp [rebOk, noId, adoptT, adoptA, adoptL, adoptC, depth]) ?_
  by_cases c1 : (h : Int) < i
  · have hps : pths h k N i = [] := pths_nil (plc_out (by omega) _)
    have c1' : h < i := by omega
    simp [go_sem, -map_replicate, -map_set, -map_append, -map_reverse, -map_take, -map_drop, -map_tail, -any_map, -all_map, -mapM_map, -map_map, slL, szI, ldI, zI, undL, apL, setI, rdI_get, Nat.add_one_le_iff, fillV, zeros1, zeros0, appendD, segV, lvO, goneOf, sliceD, bound, Nat.add_assoc, szL, ldL, setCs0, setCs1, setCs2, setCsA2, setCsA3, ldM, fM0, fM1, szM, zM, plM0, plM1, agM, paM, ldJ, fJ0, fJ1, fJ2, szJ, zJ, plJ0, plJ1, plJ2, agJ, paJ, c1, c1', w1, w2, undStr, ldStr, szStr, slStr, apStr, undStrS, zStr, zerosS0, zerosS1, zerosS3, mapM_purN_str, flatMap_idsN_str, any_hasU_str]
    simp [mvcgen_simp, -map_replicate, -map_set, -map_append, -map_reverse, -map_take, -map_drop, -map_tail, -any_map, -all_map, -mapM_map, -map_map, Try.f164, hps, ctStr, ctStrS, mapM_expN_str, flatMap_eidN_str, all_treeN_str, any_hasU_str]
  by_cases c2 : (h : Int) < k
  · have hps : pths h k N i = [] := pths_nil (plc_kout (by omega) _ _)
    have c2' : h < k := by omega
    have c1' : ¬ h < i := by omega
    simp [go_sem, -map_replicate, -map_set, -map_append, -map_reverse, -map_take, -map_drop, -map_tail, -any_map, -all_map, -mapM_map, -map_map, slL, szI, ldI, zI, undL, apL, setI, rdI_get, Nat.add_one_le_iff, fillV, zeros1, zeros0, appendD, segV, lvO, goneOf, sliceD, bound, Nat.add_assoc, szL, ldL, setCs0, setCs1, setCs2, setCsA2, setCsA3, ldM, fM0, fM1, szM, zM, plM0, plM1, agM, paM, ldJ, fJ0, fJ1, fJ2, szJ, zJ, plJ0, plJ1, plJ2, agJ, paJ, c1, c2, c1', c2', w1, w2, undStr, ldStr, szStr, slStr, apStr, undStrS, zStr, zerosS0, zerosS1, zerosS3, mapM_purN_str, flatMap_idsN_str, any_hasU_str]
    simp [mvcgen_simp, -map_replicate, -map_set, -map_append, -map_reverse, -map_take, -map_drop, -map_tail, -any_map, -all_map, -mapM_map, -map_map, Try.f164, hps, ctStr, ctStrS, mapM_expN_str, flatMap_eidN_str, all_treeN_str, any_hasU_str]
  by_cases c3 : (N : Int) < (i : Int) - k
  · have hps : pths h k N i = [] := pths_nil (plc_far _ _ (by omega))
    have c2' : ¬ h < k := by omega
    have c1' : ¬ h < i := by omega
    simp [go_sem, -map_replicate, -map_set, -map_append, -map_reverse, -map_take, -map_drop, -map_tail, -any_map, -all_map, -mapM_map, -map_map, slL, szI, ldI, zI, undL, apL, setI, rdI_get, Nat.add_one_le_iff, fillV, zeros1, zeros0, appendD, segV, lvO, goneOf, sliceD, bound, Nat.add_assoc, szL, ldL, setCs0, setCs1, setCs2, setCsA2, setCsA3, ldM, fM0, fM1, szM, zM, plM0, plM1, agM, paM, ldJ, fJ0, fJ1, fJ2, szJ, zJ, plJ0, plJ1, plJ2, agJ, paJ, c1, c2, c3, c1', c2', w1, w2, undStr, ldStr, szStr, slStr, apStr, undStrS, zStr, zerosS0, zerosS1, zerosS3, mapM_purN_str, flatMap_idsN_str, any_hasU_str]
    simp [mvcgen_simp, -map_replicate, -map_set, -map_append, -map_reverse, -map_take, -map_drop, -map_tail, -any_map, -all_map, -mapM_map, -map_map, Try.f164, hps, ctStr, ctStrS, mapM_expN_str, flatMap_eidN_str, all_treeN_str, any_hasU_str]
  by_cases c4 : (N : Int) < (k : Int) - i
  · have hps : pths h k N i = [] := pths_nil (plc_far _ _ (by omega))
    have c2' : ¬ h < k := by omega
    have c1' : ¬ h < i := by omega
    simp [go_sem, -map_replicate, -map_set, -map_append, -map_reverse, -map_take, -map_drop, -map_tail, -any_map, -all_map, -mapM_map, -map_map, slL, szI, ldI, zI, undL, apL, setI, rdI_get, Nat.add_one_le_iff, fillV, zeros1, zeros0, appendD, segV, lvO, goneOf, sliceD, bound, Nat.add_assoc, szL, ldL, setCs0, setCs1, setCs2, setCsA2, setCsA3, ldM, fM0, fM1, szM, zM, plM0, plM1, agM, paM, ldJ, fJ0, fJ1, fJ2, szJ, zJ, plJ0, plJ1, plJ2, agJ, paJ, c1, c2, c3, c4, c1', c2', w1, w2, undStr, ldStr, szStr, slStr, apStr, undStrS, zStr, zerosS0, zerosS1, zerosS3, mapM_purN_str, flatMap_idsN_str, any_hasU_str]
    simp [mvcgen_simp, -map_replicate, -map_set, -map_append, -map_reverse, -map_take, -map_drop, -map_tail, -any_map, -all_map, -mapM_map, -map_map, Try.f164, hps, ctStr, ctStrS, mapM_expN_str, flatMap_eidN_str, all_treeN_str, any_hasU_str]
  have c2' : ¬ h < k := by omega
  have c1' : ¬ h < i := by omega
  have hps : pths h k N i = putB ⟨#[68]⟩ (pths h k n ((i : Int) - 1)) ++ putB ⟨#[76]⟩ (pths h k n i) ++ putB ⟨#[85]⟩ (pths h k n ((i : Int) + 1)) := by rw [hN, pths, if_pos]; omega
  have N0 : ¬ N = 0 := by omega
  have N0i : ¬ (N : Int) = 0 := by omega
  have wN : IntKind.i64.wrap ((N : Int) - 1) = (n : Int) := by rw [IntWalk.i64_in _ (by omega)]; omega
  simp [go_sem, -map_replicate, -map_set, -map_append, -map_reverse, -map_take, -map_drop, -map_tail, -any_map, -all_map, -mapM_map, -map_map, slL, szI, ldI, zI, undL, apL, setI, rdI_get, Nat.add_one_le_iff, fillV, zeros1, zeros0, appendD, segV, lvO, goneOf, sliceD, bound, Nat.add_assoc, szL, ldL, setCs0, setCs1, setCs2, setCsA2, setCsA3, ldM, fM0, fM1, szM, zM, plM0, plM1, agM, paM, ldJ, fJ0, fJ1, fJ2, szJ, zJ, plJ0, plJ1, plJ2, agJ, paJ, c1, c2, c3, c4, c1', c2', w1, w2, N0, N0i, undStr, ldStr, szStr, slStr, apStr, undStrS, zStr, zerosS0, zerosS1, zerosS3, mapM_purN_str, flatMap_idsN_str, any_hasU_str]
  repeat refine ⟨by kernel_rfl, by kernel_rfl, ?_⟩
  rw [WL_loop]
  have h3 := accP_3 (h := h) (k := k) (n := n) (i := i) (by omega)
  rw [← hN] at h3
  refine WL_for (keep := [0, 1, 2, 3, 9, 10]) (rs := resM Try.f164) rfl (by kernel_rfl) (fun t => if accP h k n i t = [] then mkSt [(0, .int .i64 (N : Int)), (1, .int .i64 (i : Int)), (2, .int .i64 (k : Int)), (3, .int .i64 (h : Int)), (9, .nils), (10, .int .i64 ((t : Int) - 1))] [] (resM Try.f164) else mkSt [(0, .int .i64 (N : Int)), (1, .int .i64 (i : Int)), (2, .int .i64 (k : Int)), (3, .int .i64 (h : Int)), (9, .sl 0 0 0 (accP h k n i t).length), (10, .int .i64 ((t : Int) - 1))] [some (⟨0, 2, 1, (accP h k n i t).map V.str⟩)] (resM Try.f164)) 3 ?_ ?_ 0 _ (by omega) rfl ?_
  · intro t ht next
    have wS : IntKind.i64.wrap ((t : Int) - 1 + 1) = (t : Int) := by rw [IntWalk.i64_in _ (by omega)]; omega
    have wS2 : IntKind.i64.wrap (t : Int) = (t : Int) := IntWalk.i64_in _ (by omega)
    have wS3 : IntKind.i64.wrap ((t : Int) - 1 + 1) = ((t + 1 : Nat) : Int) - 1 := by rw [IntWalk.i64_in _ (by omega)]; omega
    have s1 : (t : Int) - 1 ≤ 1 := by omega
    have hti : (t : Int) < 3 := by omega
    have hti0 : (0 : Int) ≤ t := by omega
    by_cases z : i = 0 ∧ t = 0
    · obtain ⟨rfl, rfl⟩ := z
      have e1 : accP h k n (0 : Nat) 1 = [] := by
        simp only [accP, List.nil_append]
        rw [pths_nil (plc_out (by omega) _)]; rfl
      try dsimp only
      rw [if_pos (show accP h k n (0 : Nat) 0 = [] from rfl)]
      have wm : IntKind.i64.wrap (-1) = -1 := by decide +kernel
      simp [go_sem, -map_replicate, -map_set, -map_append, -map_reverse, -map_take, -map_drop, -map_tail, -any_map, -all_map, -mapM_map, -map_map, slL, szI, ldI, zI, undL, apL, setI, rdI_get, Nat.add_one_le_iff, fillV, zeros1, zeros0, appendD, segV, lvO, goneOf, sliceD, bound, Nat.add_assoc, szL, ldL, setCs0, setCs1, setCs2, setCsA2, setCsA3, ldM, fM0, fM1, szM, zM, plM0, plM1, agM, paM, ldJ, fJ0, fJ1, fJ2, szJ, zJ, plJ0, plJ1, plJ2, agJ, paJ, wm, wz0, undStr, ldStr, szStr, slStr, apStr, undStrS, zStr, zerosS0, zerosS1, zerosS3, mapM_purN_str, flatMap_idsN_str, any_hasU_str]
      repeat refine ⟨by kernel_rfl, by kernel_rfl, ?_⟩
      refine next _ rfl ?_
      try dsimp only
      rw [if_pos e1]
      (refine canon_mk ?_; simp [method_specs_simp, ordIds_app, ordRen_app, ordIds_app2, ordRen_app2, -map_replicate, -map_set, -map_append, -map_reverse, -map_take, -map_drop, -map_tail, -map_map])
    obtain ⟨J, hJ⟩ : ∃ J : Nat, (J : Int) = (i : Int) + ((t : Int) - 1) := ⟨i + t - 1, by omega⟩
    have wJ : IntKind.i64.wrap ((i : Int) + ((t : Int) - 1)) = (J : Int) := by rw [IntWalk.i64_in _ (by omega)]; omega
    have nJ : ¬ (J : Int) < 0 := by omega
    have hI := ih J (by omega)
    have eA : accP h k n i (t + 1) = accP h k n i t ++ putB (cT t) (pths h k n J) := by rw [accP, hJ]
    have lA := accP_le h k n i (by omega) t
    have lR := pths_le h k n J (by omega)
    have sR : ∀ x, x < (pths h k n J).length → (cT t).size + (rdS (pths h k n J) x).size ≤ 9223372036854775807 := fun x hx => by rw [cT_size, rdS_size hx]; omega
    have cAt := cT_at ht
    have cGt : [V.str ⟨#[68]⟩, V.str ⟨#[76]⟩, V.str ⟨#[85]⟩][t]'(by simpa using ht) = V.str (cT t) := by
      have := cAt; rw [List.getElem?_eq_getElem (by simpa using ht)] at this; exact Option.some.inj this
    try dsimp only at next
    rw [eA] at next
    try dsimp only
    generalize accP h k n i t = A at *
    generalize pths h k n J = R at *
    generalize cT t = c at *
    have tR : List.take R.length (List.map V.str R) = List.map V.str R := take_map_full (Nat.le_refl _)
    by_cases e0 : A = []
    · rw [if_pos e0]
      simp [go_sem, -map_replicate, -map_set, -map_append, -map_reverse, -map_take, -map_drop, -map_tail, -any_map, -all_map, -mapM_map, -map_map, slL, szI, ldI, zI, undL, apL, setI, rdI_get, Nat.add_one_le_iff, fillV, zeros1, zeros0, appendD, segV, lvO, goneOf, sliceD, bound, Nat.add_assoc, szL, ldL, setCs0, setCs1, setCs2, setCsA2, setCsA3, ldM, fM0, fM1, szM, zM, plM0, plM1, agM, paM, ldJ, fJ0, fJ1, fJ2, szJ, zJ, plJ0, plJ1, plJ2, agJ, paJ, s1, hti, hti0, ht, wS, wS2, wJ, nJ, hI, cGt, wN, tR, undStr, ldStr, szStr, slStr, apStr, undStrS, zStr, zerosS0, zerosS1, zerosS3, mapM_purN_str, flatMap_idsN_str, any_hasU_str]
      repeat refine ⟨by kernel_rfl, by kernel_rfl, ?_⟩
      rw [WL_loop]
      refine WL_for (keep := [0, 1, 2, 3, 9, 10, 11, 12, 13]) (rs := resM Try.f164) rfl (by kernel_rfl) (fun x => if A ++ putB c (R.take x) = [] then mkSt [(0, .int .i64 (N : Int)), (1, .int .i64 (i : Int)), (2, .int .i64 (k : Int)), (3, .int .i64 (h : Int)), (9, .nils), (10, .int .i64 ((t : Int) - 1)), (11, .str c), (12, .sl 0 0 0 R.length), (13, .int .i64 (x : Int))] [some (⟨0, 2, 1, R.map V.str⟩)] (resM Try.f164) else mkSt [(0, .int .i64 (N : Int)), (1, .int .i64 (i : Int)), (2, .int .i64 (k : Int)), (3, .int .i64 (h : Int)), (9, .sl 0 0 0 (A ++ putB c (R.take x)).length), (10, .int .i64 ((t : Int) - 1)), (11, .str c), (12, .sl 1 0 0 R.length), (13, .int .i64 (x : Int))] [some (⟨0, 2, 1, (A ++ putB c (R.take x)).map V.str⟩), some (⟨0, 2, 1, R.map V.str⟩)] (resM Try.f164)) R.length ?_ ?_ 0 _ (by omega) rfl ?_
      · intro x hx next'
        have eB := putB_succ c R A hx
        have lB : (A ++ putB c (R.take x)).length ≤ A.length + R.length := by simp [putB]; omega
        have sx := sR x hx
        have wX : IntKind.i64.wrap ((x : Int) + 1) = (x : Int) + 1 := IntWalk.i64_in _ (by omega)
        have hxi : (x : Int) < R.length := by omega
        try dsimp only at next'
        rw [eB, if_neg (by simp)] at next'
        try dsimp only
        generalize hB : A ++ putB c (R.take x) = B at *
        have cB : (B.length + 1) * 16 ≤ 140737488355328 := by omega
        by_cases e1 : B = []
        · rw [if_pos e1]
          simp [go_sem, -map_replicate, -map_set, -map_append, -map_reverse, -map_take, -map_drop, -map_tail, -any_map, -all_map, -mapM_map, -map_map, slL, szI, ldI, zI, undL, apL, setI, rdI_get, Nat.add_one_le_iff, fillV, zeros1, zeros0, appendD, segV, lvO, goneOf, sliceD, bound, Nat.add_assoc, szL, ldL, setCs0, setCs1, setCs2, setCsA2, setCsA3, ldM, fM0, fM1, szM, zM, plM0, plM1, agM, paM, ldJ, fJ0, fJ1, fJ2, szJ, zJ, plJ0, plJ1, plJ2, agJ, paJ, hx, hxi, rdS_get, strOp, sx, wX, cB, undStr, ldStr, szStr, slStr, apStr, undStrS, zStr, zerosS0, zerosS1, zerosS3, mapM_purN_str, flatMap_idsN_str, any_hasU_str]
          repeat refine ⟨by kernel_rfl, by kernel_rfl, ?_⟩
          refine next' _ rfl ?_
          (refine canon_mk ?_; simp [method_specs_simp, ordIds_app, ordRen_app, ordIds_app2, ordRen_app2, -map_replicate, -map_set, -map_append, -map_reverse, -map_take, -map_drop, -map_tail, -map_map, e1, ordIds_str, ordRen_str, ordIds_strA, ordRen_strA])
        · rw [if_neg e1]
          simp [go_sem, -map_replicate, -map_set, -map_append, -map_reverse, -map_take, -map_drop, -map_tail, -any_map, -all_map, -mapM_map, -map_map, slL, szI, ldI, zI, undL, apL, setI, rdI_get, Nat.add_one_le_iff, fillV, zeros1, zeros0, appendD, segV, lvO, goneOf, sliceD, bound, Nat.add_assoc, szL, ldL, setCs0, setCs1, setCs2, setCsA2, setCsA3, ldM, fM0, fM1, szM, zM, plM0, plM1, agM, paM, ldJ, fJ0, fJ1, fJ2, szJ, zJ, plJ0, plJ1, plJ2, agJ, paJ, hx, hxi, rdS_get, strOp, sx, wX, cB, undStr, ldStr, szStr, slStr, apStr, undStrS, zStr, zerosS0, zerosS1, zerosS3, mapM_purN_str, flatMap_idsN_str, any_hasU_str]
          repeat refine ⟨by kernel_rfl, by kernel_rfl, ?_⟩
          refine next' _ rfl ?_
          (refine canon_mk ?_; simp [method_specs_simp, ordIds_app, ordRen_app, ordIds_app2, ordRen_app2, -map_replicate, -map_set, -map_append, -map_reverse, -map_take, -map_drop, -map_tail, -map_map, ordIds_str, ordRen_str, ordIds_strA, ordRen_strA])
      · try dsimp only
        rw [List.take_length]
        by_cases e2 : A ++ putB c R = []
        · rw [if_pos e2] at next ⊢
          simp [go_sem, -map_replicate, -map_set, -map_append, -map_reverse, -map_take, -map_drop, -map_tail, -any_map, -all_map, -mapM_map, -map_map, slL, szI, ldI, zI, undL, apL, setI, rdI_get, Nat.add_one_le_iff, fillV, zeros1, zeros0, appendD, segV, lvO, goneOf, sliceD, bound, Nat.add_assoc, szL, ldL, setCs0, setCs1, setCs2, setCsA2, setCsA3, ldM, fM0, fM1, szM, zM, plM0, plM1, agM, paM, ldJ, fJ0, fJ1, fJ2, szJ, zJ, plJ0, plJ1, plJ2, agJ, paJ, wS2, wS3, undStr, ldStr, szStr, slStr, apStr, undStrS, zStr, zerosS0, zerosS1, zerosS3, mapM_purN_str, flatMap_idsN_str, any_hasU_str]
          repeat refine ⟨by kernel_rfl, by kernel_rfl, ?_⟩
          refine next _ rfl ?_
          (refine canon_mk ?_; simp [method_specs_simp, ordIds_app, ordRen_app, ordIds_app2, ordRen_app2, -map_replicate, -map_set, -map_append, -map_reverse, -map_take, -map_drop, -map_tail, -map_map, wS2, ordIds_str, ordRen_str])
        · rw [if_neg e2] at next ⊢
          simp [go_sem, -map_replicate, -map_set, -map_append, -map_reverse, -map_take, -map_drop, -map_tail, -any_map, -all_map, -mapM_map, -map_map, slL, szI, ldI, zI, undL, apL, setI, rdI_get, Nat.add_one_le_iff, fillV, zeros1, zeros0, appendD, segV, lvO, goneOf, sliceD, bound, Nat.add_assoc, szL, ldL, setCs0, setCs1, setCs2, setCsA2, setCsA3, ldM, fM0, fM1, szM, zM, plM0, plM1, agM, paM, ldJ, fJ0, fJ1, fJ2, szJ, zJ, plJ0, plJ1, plJ2, agJ, paJ, wS2, wS3, undStr, ldStr, szStr, slStr, apStr, undStrS, zStr, zerosS0, zerosS1, zerosS3, mapM_purN_str, flatMap_idsN_str, any_hasU_str]
          repeat refine ⟨by kernel_rfl, by kernel_rfl, ?_⟩
          refine next _ rfl ?_
          (refine canon_mk ?_; simp [method_specs_simp, ordIds_app, ordRen_app, ordIds_app2, ordRen_app2, -map_replicate, -map_set, -map_append, -map_reverse, -map_take, -map_drop, -map_tail, -map_map, wS2, ordIds_str, ordRen_str])
      · have t0 : A ++ putB c (R.take 0) = A := by simp [putB]
        try dsimp only
        rw [t0, if_pos e0]
        (refine canon_mk ?_; simp [method_specs_simp, ordIds_app, ordRen_app, ordIds_app2, ordRen_app2, -map_replicate, -map_set, -map_append, -map_reverse, -map_take, -map_drop, -map_tail, -map_map, ordIds_str, ordRen_str])
    · rw [if_neg e0]
      simp [go_sem, -map_replicate, -map_set, -map_append, -map_reverse, -map_take, -map_drop, -map_tail, -any_map, -all_map, -mapM_map, -map_map, slL, szI, ldI, zI, undL, apL, setI, rdI_get, Nat.add_one_le_iff, fillV, zeros1, zeros0, appendD, segV, lvO, goneOf, sliceD, bound, Nat.add_assoc, szL, ldL, setCs0, setCs1, setCs2, setCsA2, setCsA3, ldM, fM0, fM1, szM, zM, plM0, plM1, agM, paM, ldJ, fJ0, fJ1, fJ2, szJ, zJ, plJ0, plJ1, plJ2, agJ, paJ, s1, hti, hti0, ht, wS, wS2, wJ, nJ, hI, cGt, wN, tR, undStr, ldStr, szStr, slStr, apStr, undStrS, zStr, zerosS0, zerosS1, zerosS3, mapM_purN_str, flatMap_idsN_str, any_hasU_str]
      repeat refine ⟨by kernel_rfl, by kernel_rfl, ?_⟩
      rw [WL_loop]
      refine WL_for (keep := [0, 1, 2, 3, 9, 10, 11, 12, 13]) (rs := resM Try.f164) rfl (by kernel_rfl) (fun x => if A ++ putB c (R.take x) = [] then mkSt [(0, .int .i64 (N : Int)), (1, .int .i64 (i : Int)), (2, .int .i64 (k : Int)), (3, .int .i64 (h : Int)), (9, .nils), (10, .int .i64 ((t : Int) - 1)), (11, .str c), (12, .sl 0 0 0 R.length), (13, .int .i64 (x : Int))] [some (⟨0, 2, 1, R.map V.str⟩)] (resM Try.f164) else mkSt [(0, .int .i64 (N : Int)), (1, .int .i64 (i : Int)), (2, .int .i64 (k : Int)), (3, .int .i64 (h : Int)), (9, .sl 0 0 0 (A ++ putB c (R.take x)).length), (10, .int .i64 ((t : Int) - 1)), (11, .str c), (12, .sl 1 0 0 R.length), (13, .int .i64 (x : Int))] [some (⟨0, 2, 1, (A ++ putB c (R.take x)).map V.str⟩), some (⟨0, 2, 1, R.map V.str⟩)] (resM Try.f164)) R.length ?_ ?_ 0 _ (by omega) rfl ?_
      · intro x hx next'
        have eB := putB_succ c R A hx
        have lB : (A ++ putB c (R.take x)).length ≤ A.length + R.length := by simp [putB]; omega
        have sx := sR x hx
        have wX : IntKind.i64.wrap ((x : Int) + 1) = (x : Int) + 1 := IntWalk.i64_in _ (by omega)
        have hxi : (x : Int) < R.length := by omega
        try dsimp only at next'
        rw [eB, if_neg (by simp)] at next'
        try dsimp only
        generalize hB : A ++ putB c (R.take x) = B at *
        have cB : (B.length + 1) * 16 ≤ 140737488355328 := by omega
        by_cases e1 : B = []
        · rw [if_pos e1]
          simp [go_sem, -map_replicate, -map_set, -map_append, -map_reverse, -map_take, -map_drop, -map_tail, -any_map, -all_map, -mapM_map, -map_map, slL, szI, ldI, zI, undL, apL, setI, rdI_get, Nat.add_one_le_iff, fillV, zeros1, zeros0, appendD, segV, lvO, goneOf, sliceD, bound, Nat.add_assoc, szL, ldL, setCs0, setCs1, setCs2, setCsA2, setCsA3, ldM, fM0, fM1, szM, zM, plM0, plM1, agM, paM, ldJ, fJ0, fJ1, fJ2, szJ, zJ, plJ0, plJ1, plJ2, agJ, paJ, hx, hxi, rdS_get, strOp, sx, wX, cB, undStr, ldStr, szStr, slStr, apStr, undStrS, zStr, zerosS0, zerosS1, zerosS3, mapM_purN_str, flatMap_idsN_str, any_hasU_str]
          repeat refine ⟨by kernel_rfl, by kernel_rfl, ?_⟩
          refine next' _ rfl ?_
          (refine canon_mk ?_; simp [method_specs_simp, ordIds_app, ordRen_app, ordIds_app2, ordRen_app2, -map_replicate, -map_set, -map_append, -map_reverse, -map_take, -map_drop, -map_tail, -map_map, e1, ordIds_str, ordRen_str, ordIds_strA, ordRen_strA])
        · rw [if_neg e1]
          simp [go_sem, -map_replicate, -map_set, -map_append, -map_reverse, -map_take, -map_drop, -map_tail, -any_map, -all_map, -mapM_map, -map_map, slL, szI, ldI, zI, undL, apL, setI, rdI_get, Nat.add_one_le_iff, fillV, zeros1, zeros0, appendD, segV, lvO, goneOf, sliceD, bound, Nat.add_assoc, szL, ldL, setCs0, setCs1, setCs2, setCsA2, setCsA3, ldM, fM0, fM1, szM, zM, plM0, plM1, agM, paM, ldJ, fJ0, fJ1, fJ2, szJ, zJ, plJ0, plJ1, plJ2, agJ, paJ, hx, hxi, rdS_get, strOp, sx, wX, cB, undStr, ldStr, szStr, slStr, apStr, undStrS, zStr, zerosS0, zerosS1, zerosS3, mapM_purN_str, flatMap_idsN_str, any_hasU_str]
          repeat refine ⟨by kernel_rfl, by kernel_rfl, ?_⟩
          refine next' _ rfl ?_
          (refine canon_mk ?_; simp [method_specs_simp, ordIds_app, ordRen_app, ordIds_app2, ordRen_app2, -map_replicate, -map_set, -map_append, -map_reverse, -map_take, -map_drop, -map_tail, -map_map, ordIds_str, ordRen_str, ordIds_strA, ordRen_strA])
      · try dsimp only
        rw [List.take_length]
        by_cases e2 : A ++ putB c R = []
        · rw [if_pos e2] at next ⊢
          simp [go_sem, -map_replicate, -map_set, -map_append, -map_reverse, -map_take, -map_drop, -map_tail, -any_map, -all_map, -mapM_map, -map_map, slL, szI, ldI, zI, undL, apL, setI, rdI_get, Nat.add_one_le_iff, fillV, zeros1, zeros0, appendD, segV, lvO, goneOf, sliceD, bound, Nat.add_assoc, szL, ldL, setCs0, setCs1, setCs2, setCsA2, setCsA3, ldM, fM0, fM1, szM, zM, plM0, plM1, agM, paM, ldJ, fJ0, fJ1, fJ2, szJ, zJ, plJ0, plJ1, plJ2, agJ, paJ, wS2, wS3, undStr, ldStr, szStr, slStr, apStr, undStrS, zStr, zerosS0, zerosS1, zerosS3, mapM_purN_str, flatMap_idsN_str, any_hasU_str]
          repeat refine ⟨by kernel_rfl, by kernel_rfl, ?_⟩
          refine next _ rfl ?_
          (refine canon_mk ?_; simp [method_specs_simp, ordIds_app, ordRen_app, ordIds_app2, ordRen_app2, -map_replicate, -map_set, -map_append, -map_reverse, -map_take, -map_drop, -map_tail, -map_map, wS2, ordIds_str, ordRen_str])
        · rw [if_neg e2] at next ⊢
          simp [go_sem, -map_replicate, -map_set, -map_append, -map_reverse, -map_take, -map_drop, -map_tail, -any_map, -all_map, -mapM_map, -map_map, slL, szI, ldI, zI, undL, apL, setI, rdI_get, Nat.add_one_le_iff, fillV, zeros1, zeros0, appendD, segV, lvO, goneOf, sliceD, bound, Nat.add_assoc, szL, ldL, setCs0, setCs1, setCs2, setCsA2, setCsA3, ldM, fM0, fM1, szM, zM, plM0, plM1, agM, paM, ldJ, fJ0, fJ1, fJ2, szJ, zJ, plJ0, plJ1, plJ2, agJ, paJ, wS2, wS3, undStr, ldStr, szStr, slStr, apStr, undStrS, zStr, zerosS0, zerosS1, zerosS3, mapM_purN_str, flatMap_idsN_str, any_hasU_str]
          repeat refine ⟨by kernel_rfl, by kernel_rfl, ?_⟩
          refine next _ rfl ?_
          (refine canon_mk ?_; simp [method_specs_simp, ordIds_app, ordRen_app, ordIds_app2, ordRen_app2, -map_replicate, -map_set, -map_append, -map_reverse, -map_take, -map_drop, -map_tail, -map_map, wS2, ordIds_str, ordRen_str])
      · have t0 : A ++ putB c (R.take 0) = A := by simp [putB]
        try dsimp only
        rw [t0, if_neg e0]
        (refine canon_mk ?_; simp [method_specs_simp, ordIds_app, ordRen_app, ordIds_app2, ordRen_app2, -map_replicate, -map_set, -map_append, -map_reverse, -map_take, -map_drop, -map_tail, -map_map, ordIds_str, ordRen_str])
  · try dsimp only
    have tR : List.take (accP h k n i 3).length (List.map V.str (accP h k n i 3)) = List.map V.str (accP h k n i 3) := take_map_full (Nat.le_refl _)
    generalize accP h k n i 3 = A at *
    by_cases e0 : A = []
    · rw [if_pos e0]
      rw [e0] at h3
      simp [go_sem, -map_replicate, -map_set, -map_append, -map_reverse, -map_take, -map_drop, -map_tail, -any_map, -all_map, -mapM_map, -map_map, slL, szI, ldI, zI, undL, apL, setI, rdI_get, Nat.add_one_le_iff, fillV, zeros1, zeros0, appendD, segV, lvO, goneOf, sliceD, bound, Nat.add_assoc, szL, ldL, setCs0, setCs1, setCs2, setCsA2, setCsA3, ldM, fM0, fM1, szM, zM, plM0, plM1, agM, paM, ldJ, fJ0, fJ1, fJ2, szJ, zJ, plJ0, plJ1, plJ2, agJ, paJ, undStr, ldStr, szStr, slStr, apStr, undStrS, zStr, zerosS0, zerosS1, zerosS3, mapM_purN_str, flatMap_idsN_str, any_hasU_str]
      simp [mvcgen_simp, -map_replicate, -map_set, -map_append, -map_reverse, -map_take, -map_drop, -map_tail, -any_map, -all_map, -mapM_map, -map_map, Try.f164, h3, ctStr, ctStrS, mapM_expN_str, flatMap_eidN_str, all_treeN_str, any_hasU_str]
    · rw [if_neg e0]
      simp [go_sem, -map_replicate, -map_set, -map_append, -map_reverse, -map_take, -map_drop, -map_tail, -any_map, -all_map, -mapM_map, -map_map, slL, szI, ldI, zI, undL, apL, setI, rdI_get, Nat.add_one_le_iff, fillV, zeros1, zeros0, appendD, segV, lvO, goneOf, sliceD, bound, Nat.add_assoc, szL, ldL, setCs0, setCs1, setCs2, setCsA2, setCsA3, ldM, fM0, fM1, szM, zM, plM0, plM1, agM, paM, ldJ, fJ0, fJ1, fJ2, szJ, zJ, plJ0, plJ1, plJ2, agJ, paJ, undStr, ldStr, szStr, slStr, apStr, undStrS, zStr, zerosS0, zerosS1, zerosS3, mapM_purN_str, flatMap_idsN_str, any_hasU_str]
      simp [mvcgen_simp, -map_replicate, -map_set, -map_append, -map_reverse, -map_take, -map_drop, -map_tail, -any_map, -all_map, -mapM_map, -map_map, Try.f164, h3, tR, ctStr, ctStrS, mapM_expN_str, flatMap_eidN_str, all_treeN_str, any_hasU_str]
  · try dsimp only
    rw [if_pos (show accP h k n i 0 = [] from rfl)]
    (refine canon_mk ?_; simp [method_specs_simp, ordIds_app, ordRen_app, ordIds_app2, ordRen_app2, -map_replicate, -map_set, -map_append, -map_reverse, -map_take, -map_drop, -map_tail, -map_map])
theorem run_l09Paths (k h : Nat) (hk : k ≤ 24) (hh : h ≤ 24) : ∀ (n : Nat), n ≤ 24 → ∀ i : Nat, i ≤ 100 → runv E1 164 [.int .i64 (n : Nat), .int .i64 (i : Nat), .int .i64 k, .int .i64 h] = some ⟨true, .uniq 1 (pths h k n i).length ((pths h k n i).map V.str), [.undef, .undef, .undef, .undef]⟩
  | 0, _, i, hi => run_l09Paths0 k h i hk hh hi
  | n + 1, hn, i, hi => run_l09PathsS k h n hk hh hn (run_l09Paths k h hk hh n (by omega)) i hi
theorem cnt_plc (n i k h : Nat) (hn : n ≤ 24) : (if h < i ∨ h < k then 0 else rdI (dpAt true h (startI h i) n) k) = (plc h k n i : Int) := by
  by_cases c : h < i ∨ h < k
  · rw [if_pos c]
    rcases c with c | c
    · rw [plc_out (by omega)]; rfl
    · rw [plc_kout (by omega)]; rfl
  · rw [if_neg c, dp_plc h i (by omega) n hn k]
theorem cT_ext {t : Nat} (h : t < 3) : (⟨#[68, 76, 85]⟩ : ByteArray).extract t (t + 1) = cT t := by
  rcases t with _ | _ | _ | t
  · decide +kernel
  · decide +kernel
  · decide +kernel
  · omega
theorem to_at {x : V} (a b c : Int) (t : Nat) (h : t < 3) (q : [V.int .i64 a, V.int .i64 b, V.int .i64 c][t]? = some x) : [V.int .i64 a, V.int .i64 b, V.int .i64 c][t]'(by simpa using h) = x := by
  rw [List.getElem?_eq_getElem (by simpa using h)] at q; exact Option.some.inj q
theorem run_pathsOf0 (k h : Nat) (i : Int) (hk : k ≤ 24) (hh : h ≤ 24) (h0 : -1 ≤ i) (hi : i ≤ 100) : runv E1 161 [.int .i64 (0 : Nat), .int .i64 i, .int .i64 k, .int .i64 h] = some ⟨true, .uniq 1 (pths h k 0 i).length ((pths h k 0 i).map V.str), [.undef, .undef, .undef, .undef]⟩ := by
  have cdk : codeOk Try.f161.ntmps (Try.f161.body.getD .skip) = true := by kernel_rfl
  refine run_of_WLr (fn := Try.f161) rfl Try.func161 rfl ⟨by simp [Try.ntmps161], by simp [wideA, ints], cdk, by simp [Try.f161]⟩ rfl (by simp [rebOk, noId, adoptT, adoptA, adoptL, adoptC, depth]) ?_
  by_cases c1 : i < 0
  · have hps : pths h k 0 i = [] := pths_nil (plc_out (by omega) _)
    simp [go_sem, -map_replicate, -map_set, -map_append, -map_reverse, -map_take, -map_drop, -map_tail, -any_map, -all_map, -mapM_map, -map_map, slL, szI, ldI, zI, undL, apL, setI, rdI_get, Nat.add_one_le_iff, fillV, zeros1, zeros0, appendD, segV, lvO, goneOf, sliceD, bound, Nat.add_assoc, szL, ldL, setCs0, setCs1, setCs2, setCsA2, setCsA3, ldM, fM0, fM1, szM, zM, plM0, plM1, agM, paM, ldJ, fJ0, fJ1, fJ2, szJ, zJ, plJ0, plJ1, plJ2, agJ, paJ, c1, undStr, ldStr, szStr, slStr, apStr, undStrS, zStr, zerosS0, zerosS1, zerosS3, mapM_purN_str, flatMap_idsN_str, any_hasU_str]
    simp [mvcgen_simp, -map_replicate, -map_set, -map_append, -map_reverse, -map_take, -map_drop, -map_tail, -any_map, -all_map, -mapM_map, -map_map, Try.f161, hps, ctStr, ctStrS, mapM_expN_str, flatMap_eidN_str, all_treeN_str, any_hasU_str]
  obtain ⟨I, rfl⟩ : ∃ I : Nat, i = I := ⟨i.toNat, by omega⟩
  have hc := up (run_countPaths 0 I k h true (by omega) (by omega))
  rw [cnt_plc 0 I k h (by omega), show ((0 : Nat) : Int) = 0 from rfl] at hc
  by_cases c2 : plc h k 0 I = 0
  · have hps : pths h k 0 I = [] := pths_nil c2
    rw [c2] at hc
    simp [go_sem, -map_replicate, -map_set, -map_append, -map_reverse, -map_take, -map_drop, -map_tail, -any_map, -all_map, -mapM_map, -map_map, slL, szI, ldI, zI, undL, apL, setI, rdI_get, Nat.add_one_le_iff, fillV, zeros1, zeros0, appendD, segV, lvO, goneOf, sliceD, bound, Nat.add_assoc, szL, ldL, setCs0, setCs1, setCs2, setCsA2, setCsA3, ldM, fM0, fM1, szM, zM, plM0, plM1, agM, paM, ldJ, fJ0, fJ1, fJ2, szJ, zJ, plJ0, plJ1, plJ2, agJ, paJ, c1, hc, undStr, ldStr, szStr, slStr, apStr, undStrS, zStr, zerosS0, zerosS1, zerosS3, mapM_purN_str, flatMap_idsN_str, any_hasU_str]
    simp [mvcgen_simp, -map_replicate, -map_set, -map_append, -map_reverse, -map_take, -map_drop, -map_tail, -any_map, -all_map, -mapM_map, -map_map, Try.f161, hps, ctStr, ctStrS, mapM_expN_str, flatMap_eidN_str, all_treeN_str, any_hasU_str]
  · have hps : pths h k 0 I = [⟨#[]⟩] := by
      rw [pths, if_pos]; apply Classical.byContradiction; intro c3; exact c2 (by rw [plc, if_neg c3])
    have c2i : ¬ (plc h k 0 I : Int) = 0 := by omega
    simp [go_sem, -map_replicate, -map_set, -map_append, -map_reverse, -map_take, -map_drop, -map_tail, -any_map, -all_map, -mapM_map, -map_map, slL, szI, ldI, zI, undL, apL, setI, rdI_get, Nat.add_one_le_iff, fillV, zeros1, zeros0, appendD, segV, lvO, goneOf, sliceD, bound, Nat.add_assoc, szL, ldL, setCs0, setCs1, setCs2, setCsA2, setCsA3, ldM, fM0, fM1, szM, zM, plM0, plM1, agM, paM, ldJ, fJ0, fJ1, fJ2, szJ, zJ, plJ0, plJ1, plJ2, agJ, paJ, c1, hc, c2, c2i, undStr, ldStr, szStr, slStr, apStr, undStrS, zStr, zerosS0, zerosS1, zerosS3, mapM_purN_str, flatMap_idsN_str, any_hasU_str]
    simp [mvcgen_simp, -map_replicate, -map_set, -map_append, -map_reverse, -map_take, -map_drop, -map_tail, -any_map, -all_map, -mapM_map, -map_map, Try.f161, hps, ctStr, ctStrS, mapM_expN_str, flatMap_eidN_str, all_treeN_str, any_hasU_str]
theorem run_pathsOfS (k h n : Nat) (hk : k ≤ 24) (hh : h ≤ 24) (hn : n + 1 ≤ 24) (ih : ∀ i : Int, -1 ≤ i → i ≤ 100 → runv E1 161 [.int .i64 (n : Nat), .int .i64 i, .int .i64 k, .int .i64 h] = some ⟨true, .uniq 1 (pths h k n i).length ((pths h k n i).map V.str), [.undef, .undef, .undef, .undef]⟩) (i : Int) (h0 : -1 ≤ i) (hi : i ≤ 100) : runv E1 161 [.int .i64 (n + 1 : Nat), .int .i64 i, .int .i64 k, .int .i64 h] = some ⟨true, .uniq 1 (pths h k (n + 1) i).length ((pths h k (n + 1) i).map V.str), [.undef, .undef, .undef, .undef]⟩ := by
  obtain ⟨N, hN⟩ : ∃ N : Nat, N = n + 1 := ⟨_, rfl⟩
  rw [← hN]
  have cdk : codeOk Try.f161.ntmps (Try.f161.body.getD .skip) = true := by kernel_rfl
  refine run_of_WLr (fn := Try.f161) rfl Try.func161 rfl ⟨by simp [Try.ntmps161], by simp [wideA, ints], cdk, by simp [Try.f161]⟩ rfl (by simp [rebOk, noId, adoptT, adoptA, adoptL, adoptC, depth]) ?_
  by_cases c1 : i < 0
  · have hps : pths h k N i = [] := pths_nil (plc_out (by omega) _)
    simp [go_sem, -map_replicate, -map_set, -map_append, -map_reverse, -map_take, -map_drop, -map_tail, -any_map, -all_map, -mapM_map, -map_map, slL, szI, ldI, zI, undL, apL, setI, rdI_get, Nat.add_one_le_iff, fillV, zeros1, zeros0, appendD, segV, lvO, goneOf, sliceD, bound, Nat.add_assoc, szL, ldL, setCs0, setCs1, setCs2, setCsA2, setCsA3, ldM, fM0, fM1, szM, zM, plM0, plM1, agM, paM, ldJ, fJ0, fJ1, fJ2, szJ, zJ, plJ0, plJ1, plJ2, agJ, paJ, c1, undStr, ldStr, szStr, slStr, apStr, undStrS, zStr, zerosS0, zerosS1, zerosS3, mapM_purN_str, flatMap_idsN_str, any_hasU_str]
    simp [mvcgen_simp, -map_replicate, -map_set, -map_append, -map_reverse, -map_take, -map_drop, -map_tail, -any_map, -all_map, -mapM_map, -map_map, Try.f161, hps, ctStr, ctStrS, mapM_expN_str, flatMap_eidN_str, all_treeN_str, any_hasU_str]
  obtain ⟨I, rfl⟩ : ∃ I : Nat, i = I := ⟨i.toNat, by omega⟩
  have hc := up (run_countPaths N I k h true (by omega) (by omega))
  rw [cnt_plc N I k h (by omega)] at hc
  by_cases c2 : plc h k N I = 0
  · have hps : pths h k N I = [] := pths_nil c2
    rw [c2] at hc
    simp [go_sem, -map_replicate, -map_set, -map_append, -map_reverse, -map_take, -map_drop, -map_tail, -any_map, -all_map, -mapM_map, -map_map, slL, szI, ldI, zI, undL, apL, setI, rdI_get, Nat.add_one_le_iff, fillV, zeros1, zeros0, appendD, segV, lvO, goneOf, sliceD, bound, Nat.add_assoc, szL, ldL, setCs0, setCs1, setCs2, setCsA2, setCsA3, ldM, fM0, fM1, szM, zM, plM0, plM1, agM, paM, ldJ, fJ0, fJ1, fJ2, szJ, zJ, plJ0, plJ1, plJ2, agJ, paJ, c1, hc, undStr, ldStr, szStr, slStr, apStr, undStrS, zStr, zerosS0, zerosS1, zerosS3, mapM_purN_str, flatMap_idsN_str, any_hasU_str]
    simp [mvcgen_simp, -map_replicate, -map_set, -map_append, -map_reverse, -map_take, -map_drop, -map_tail, -any_map, -all_map, -mapM_map, -map_map, Try.f161, hps, ctStr, ctStrS, mapM_expN_str, flatMap_eidN_str, all_treeN_str, any_hasU_str]
  have c2i : ¬ (plc h k N I : Int) = 0 := by omega
  have hIh : I ≤ h := by
    apply Classical.byContradiction; intro c3; exact c2 (plc_out (by omega) _)
  have N0 : ¬ N = 0 := by omega
  have N0i : ¬ (N : Int) = 0 := by omega
  have wN : IntKind.i64.wrap ((N : Int) - 1) = (n : Int) := by rw [IntWalk.i64_in _ (by omega)]; omega
  have w1 : IntKind.i64.wrap ((I : Int) - 1) = (I : Int) - 1 := IntWalk.i64_in _ (by omega)
  have w2 : IntKind.i64.wrap ((I : Int) + 1) = (I : Int) + 1 := IntWalk.i64_in _ (by omega)
  have h3 := accP_3 (h := h) (k := k) (n := n) (i := I) (by omega)
  rw [← hN] at h3
  have zi3 : zerosV 3 [V.int .i64 0] = [.int .i64 0, .int .i64 0, .int .i64 0] := rfl
  simp [go_sem, -map_replicate, -map_set, -map_append, -map_reverse, -map_take, -map_drop, -map_tail, -any_map, -all_map, -mapM_map, -map_map, slL, szI, ldI, zI, undL, apL, setI, rdI_get, Nat.add_one_le_iff, fillV, zeros1, zeros0, appendD, segV, lvO, goneOf, sliceD, bound, Nat.add_assoc, szL, ldL, setCs0, setCs1, setCs2, setCsA2, setCsA3, ldM, fM0, fM1, szM, zM, plM0, plM1, agM, paM, ldJ, fJ0, fJ1, fJ2, szJ, zJ, plJ0, plJ1, plJ2, agJ, paJ, c1, hc, c2, c2i, w1, w2, N0, N0i, zi3, undStr, ldStr, szStr, slStr, apStr, undStrS, zStr, zerosS0, zerosS1, zerosS3, mapM_purN_str, flatMap_idsN_str, any_hasU_str]
  repeat refine ⟨by kernel_rfl, by kernel_rfl, ?_⟩
  rw [WL_loop]
  refine WL_for (keep := [0, 2, 3, 9, 32, 33, 34]) (rs := resM Try.f161) rfl (by kernel_rfl) (fun t => if accP h k n I t = [] then mkSt [(0, .int .i64 (N : Int)), (2, .int .i64 (k : Int)), (3, .int .i64 (h : Int)), (9, .nils), (32, .sl 0 0 0 3), (33, .int .i64 3), (34, .int .i64 (t : Int))] [some (⟨0, 2, 1, [.int .i64 ((I : Int) - 1), .int .i64 (I : Int), .int .i64 ((I : Int) + 1)]⟩)] (resM Try.f161) else mkSt [(0, .int .i64 (N : Int)), (2, .int .i64 (k : Int)), (3, .int .i64 (h : Int)), (9, .sl 0 0 0 (accP h k n I t).length), (32, .sl 1 0 0 3), (33, .int .i64 3), (34, .int .i64 (t : Int))] [some (⟨0, 2, 1, (accP h k n I t).map V.str⟩), some (⟨0, 2, 1, [.int .i64 ((I : Int) - 1), .int .i64 (I : Int), .int .i64 ((I : Int) + 1)]⟩)] (resM Try.f161)) 3 ?_ ?_ 0 _ (by omega) rfl ?_
  · intro t ht next
    have wS3 : IntKind.i64.wrap ((t : Int) + 1) = (t : Int) + 1 := IntWalk.i64_in _ (by omega)
    have hti : (t : Int) < 3 := by omega
    obtain ⟨J, hJ⟩ : ∃ J : Int, J = (I : Int) + ((t : Int) - 1) := ⟨_, rfl⟩
    have hI := ih J (by omega) (by omega)
    have eA : accP h k n I (t + 1) = accP h k n I t ++ putB (cT t) (pths h k n J) := by rw [accP, hJ]
    have lA := accP_le h k n I (by omega) t
    have lR := pths_le h k n J (by omega)
    have sR : ∀ x, x < (pths h k n J).length → (cT t).size + (rdS (pths h k n J) x).size ≤ 9223372036854775807 := fun x hx => by rw [cT_size, rdS_size hx]; omega
    have cEx := cT_ext ht
    have cGt : [V.int .i64 ((I : Int) - 1), V.int .i64 (I : Int), V.int .i64 ((I : Int) + 1)][t]'(by simpa using ht) = V.int .i64 J := by
      refine to_at _ _ _ t ht ?_
      rcases t with _ | _ | _ | t
      · simp [hJ] <;> omega
      · simp [hJ] <;> omega
      · simp [hJ] <;> omega
      · omega
    try dsimp only at next
    rw [eA] at next
    try dsimp only
    generalize accP h k n I t = A at *
    generalize pths h k n J = R at *
    generalize cT t = c at *
    have tR : List.take R.length (List.map V.str R) = List.map V.str R := take_map_full (Nat.le_refl _)
    by_cases e0 : A = []
    · rw [if_pos e0]
      simp [go_sem, -map_replicate, -map_set, -map_append, -map_reverse, -map_take, -map_drop, -map_tail, -any_map, -all_map, -mapM_map, -map_map, slL, szI, ldI, zI, undL, apL, setI, rdI_get, Nat.add_one_le_iff, fillV, zeros1, zeros0, appendD, segV, lvO, goneOf, sliceD, bound, Nat.add_assoc, szL, ldL, setCs0, setCs1, setCs2, setCsA2, setCsA3, ldM, fM0, fM1, szM, zM, plM0, plM1, agM, paM, ldJ, fJ0, fJ1, fJ2, szJ, zJ, plJ0, plJ1, plJ2, agJ, paJ, ht, hti, hI, cGt, wN, tR, undStr, ldStr, szStr, slStr, apStr, undStrS, zStr, zerosS0, zerosS1, zerosS3, mapM_purN_str, flatMap_idsN_str, any_hasU_str]
      repeat refine ⟨by kernel_rfl, by kernel_rfl, ?_⟩
      rw [WL_loop]
      refine WL_for (keep := [0, 2, 3, 9, 10, 32, 33, 34, 44, 45, 46]) (rs := resM Try.f161) rfl (by kernel_rfl) (fun x => if A ++ putB c (R.take x) = [] then mkSt [(0, .int .i64 (N : Int)), (2, .int .i64 (k : Int)), (3, .int .i64 (h : Int)), (9, .nils), (10, .int .i64 (t : Int)), (32, .sl 0 0 0 3), (33, .int .i64 3), (34, .int .i64 (t : Int)), (44, .sl 1 0 0 R.length), (45, .int .i64 (R.length : Int)), (46, .int .i64 (x : Int))] [some (⟨0, 2, 1, [.int .i64 ((I : Int) - 1), .int .i64 (I : Int), .int .i64 ((I : Int) + 1)]⟩), some (⟨0, 2, 1, R.map V.str⟩)] (resM Try.f161) else mkSt [(0, .int .i64 (N : Int)), (2, .int .i64 (k : Int)), (3, .int .i64 (h : Int)), (9, .sl 0 0 0 (A ++ putB c (R.take x)).length), (10, .int .i64 (t : Int)), (32, .sl 1 0 0 3), (33, .int .i64 3), (34, .int .i64 (t : Int)), (44, .sl 2 0 0 R.length), (45, .int .i64 (R.length : Int)), (46, .int .i64 (x : Int))] [some (⟨0, 2, 1, (A ++ putB c (R.take x)).map V.str⟩), some (⟨0, 2, 1, [.int .i64 ((I : Int) - 1), .int .i64 (I : Int), .int .i64 ((I : Int) + 1)]⟩), some (⟨0, 2, 1, R.map V.str⟩)] (resM Try.f161)) R.length ?_ ?_ 0 _ (by omega) rfl ?_
      · intro x hx next'
        have eB := putB_succ c R A hx
        have lB : (A ++ putB c (R.take x)).length ≤ A.length + R.length := by simp [putB]; omega
        have sx := sR x hx
        have wX : IntKind.i64.wrap ((x : Int) + 1) = (x : Int) + 1 := IntWalk.i64_in _ (by omega)
        have hxi : (x : Int) < R.length := by omega
        have t2 : t ≤ 2 := by omega
        have t2i : (t : Int) + 1 ≤ 3 := by omega
        have t2n : t + 1 ≤ 3 := by omega
        have tq : (0 : Int) ≤ (t : Int) + 1 := by omega
        have szD : (⟨#[68, 76, 85]⟩ : ByteArray).size = 3 := rfl
        try dsimp only at next'
        rw [eB, if_neg (by simp)] at next'
        try dsimp only
        generalize hB : A ++ putB c (R.take x) = B at *
        have cB : (B.length + 1) * 16 ≤ 140737488355328 := by omega
        by_cases e1 : B = []
        · rw [if_pos e1]
          simp [go_sem, -map_replicate, -map_set, -map_append, -map_reverse, -map_take, -map_drop, -map_tail, -any_map, -all_map, -mapM_map, -map_map, slL, szI, ldI, zI, undL, apL, setI, rdI_get, Nat.add_one_le_iff, fillV, zeros1, zeros0, appendD, segV, lvO, goneOf, sliceD, bound, Nat.add_assoc, szL, ldL, setCs0, setCs1, setCs2, setCsA2, setCsA3, ldM, fM0, fM1, szM, zM, plM0, plM1, agM, paM, ldJ, fJ0, fJ1, fJ2, szJ, zJ, plJ0, plJ1, plJ2, agJ, paJ, hx, hxi, rdS_get, strOp, sx, wX, wS3, cB, cEx, t2, t2i, t2n, tq, szD, undStr, ldStr, szStr, slStr, apStr, undStrS, zStr, zerosS0, zerosS1, zerosS3, mapM_purN_str, flatMap_idsN_str, any_hasU_str]
          repeat refine ⟨by kernel_rfl, by kernel_rfl, ?_⟩
          refine next' _ rfl ?_
          (refine canon_mk ?_; simp [method_specs_simp, ordIds_app, ordRen_app, ordIds_app2, ordRen_app2, -map_replicate, -map_set, -map_append, -map_reverse, -map_take, -map_drop, -map_tail, -map_map, e1, ordIds_str, ordRen_str, ordIds_strA, ordRen_strA])
        · rw [if_neg e1]
          simp [go_sem, -map_replicate, -map_set, -map_append, -map_reverse, -map_take, -map_drop, -map_tail, -any_map, -all_map, -mapM_map, -map_map, slL, szI, ldI, zI, undL, apL, setI, rdI_get, Nat.add_one_le_iff, fillV, zeros1, zeros0, appendD, segV, lvO, goneOf, sliceD, bound, Nat.add_assoc, szL, ldL, setCs0, setCs1, setCs2, setCsA2, setCsA3, ldM, fM0, fM1, szM, zM, plM0, plM1, agM, paM, ldJ, fJ0, fJ1, fJ2, szJ, zJ, plJ0, plJ1, plJ2, agJ, paJ, hx, hxi, rdS_get, strOp, sx, wX, wS3, cB, cEx, t2, t2i, t2n, tq, szD, undStr, ldStr, szStr, slStr, apStr, undStrS, zStr, zerosS0, zerosS1, zerosS3, mapM_purN_str, flatMap_idsN_str, any_hasU_str]
          repeat refine ⟨by kernel_rfl, by kernel_rfl, ?_⟩
          refine next' _ rfl ?_
          (refine canon_mk ?_; simp [method_specs_simp, ordIds_app, ordRen_app, ordIds_app2, ordRen_app2, -map_replicate, -map_set, -map_append, -map_reverse, -map_take, -map_drop, -map_tail, -map_map, ordIds_str, ordRen_str, ordIds_strA, ordRen_strA])
      · try dsimp only
        rw [List.take_length]
        by_cases e2 : A ++ putB c R = []
        · rw [if_pos e2] at next ⊢
          simp [go_sem, -map_replicate, -map_set, -map_append, -map_reverse, -map_take, -map_drop, -map_tail, -any_map, -all_map, -mapM_map, -map_map, slL, szI, ldI, zI, undL, apL, setI, rdI_get, Nat.add_one_le_iff, fillV, zeros1, zeros0, appendD, segV, lvO, goneOf, sliceD, bound, Nat.add_assoc, szL, ldL, setCs0, setCs1, setCs2, setCsA2, setCsA3, ldM, fM0, fM1, szM, zM, plM0, plM1, agM, paM, ldJ, fJ0, fJ1, fJ2, szJ, zJ, plJ0, plJ1, plJ2, agJ, paJ, wS3, undStr, ldStr, szStr, slStr, apStr, undStrS, zStr, zerosS0, zerosS1, zerosS3, mapM_purN_str, flatMap_idsN_str, any_hasU_str]
          repeat refine ⟨by kernel_rfl, by kernel_rfl, ?_⟩
          refine next _ rfl ?_
          (refine canon_mk ?_; simp [method_specs_simp, ordIds_app, ordRen_app, ordIds_app2, ordRen_app2, -map_replicate, -map_set, -map_append, -map_reverse, -map_take, -map_drop, -map_tail, -map_map, ordIds_str, ordRen_str])
        · rw [if_neg e2] at next ⊢
          simp [go_sem, -map_replicate, -map_set, -map_append, -map_reverse, -map_take, -map_drop, -map_tail, -any_map, -all_map, -mapM_map, -map_map, slL, szI, ldI, zI, undL, apL, setI, rdI_get, Nat.add_one_le_iff, fillV, zeros1, zeros0, appendD, segV, lvO, goneOf, sliceD, bound, Nat.add_assoc, szL, ldL, setCs0, setCs1, setCs2, setCsA2, setCsA3, ldM, fM0, fM1, szM, zM, plM0, plM1, agM, paM, ldJ, fJ0, fJ1, fJ2, szJ, zJ, plJ0, plJ1, plJ2, agJ, paJ, wS3, undStr, ldStr, szStr, slStr, apStr, undStrS, zStr, zerosS0, zerosS1, zerosS3, mapM_purN_str, flatMap_idsN_str, any_hasU_str]
          repeat refine ⟨by kernel_rfl, by kernel_rfl, ?_⟩
          refine next _ rfl ?_
          (refine canon_mk ?_; simp [method_specs_simp, ordIds_app, ordRen_app, ordIds_app2, ordRen_app2, -map_replicate, -map_set, -map_append, -map_reverse, -map_take, -map_drop, -map_tail, -map_map, ordIds_str, ordRen_str])
      · have t0 : A ++ putB c (R.take 0) = A := by simp [putB]
        try dsimp only
        rw [t0, if_pos e0]
        (refine canon_mk ?_; simp [method_specs_simp, ordIds_app, ordRen_app, ordIds_app2, ordRen_app2, -map_replicate, -map_set, -map_append, -map_reverse, -map_take, -map_drop, -map_tail, -map_map, ordIds_str, ordRen_str])
    · rw [if_neg e0]
      simp [go_sem, -map_replicate, -map_set, -map_append, -map_reverse, -map_take, -map_drop, -map_tail, -any_map, -all_map, -mapM_map, -map_map, slL, szI, ldI, zI, undL, apL, setI, rdI_get, Nat.add_one_le_iff, fillV, zeros1, zeros0, appendD, segV, lvO, goneOf, sliceD, bound, Nat.add_assoc, szL, ldL, setCs0, setCs1, setCs2, setCsA2, setCsA3, ldM, fM0, fM1, szM, zM, plM0, plM1, agM, paM, ldJ, fJ0, fJ1, fJ2, szJ, zJ, plJ0, plJ1, plJ2, agJ, paJ, ht, hti, hI, cGt, wN, tR, undStr, ldStr, szStr, slStr, apStr, undStrS, zStr, zerosS0, zerosS1, zerosS3, mapM_purN_str, flatMap_idsN_str, any_hasU_str]
      repeat refine ⟨by kernel_rfl, by kernel_rfl, ?_⟩
      rw [WL_loop]
      refine WL_for (keep := [0, 2, 3, 9, 10, 32, 33, 34, 44, 45, 46]) (rs := resM Try.f161) rfl (by kernel_rfl) (fun x => if A ++ putB c (R.take x) = [] then mkSt [(0, .int .i64 (N : Int)), (2, .int .i64 (k : Int)), (3, .int .i64 (h : Int)), (9, .nils), (10, .int .i64 (t : Int)), (32, .sl 0 0 0 3), (33, .int .i64 3), (34, .int .i64 (t : Int)), (44, .sl 1 0 0 R.length), (45, .int .i64 (R.length : Int)), (46, .int .i64 (x : Int))] [some (⟨0, 2, 1, [.int .i64 ((I : Int) - 1), .int .i64 (I : Int), .int .i64 ((I : Int) + 1)]⟩), some (⟨0, 2, 1, R.map V.str⟩)] (resM Try.f161) else mkSt [(0, .int .i64 (N : Int)), (2, .int .i64 (k : Int)), (3, .int .i64 (h : Int)), (9, .sl 0 0 0 (A ++ putB c (R.take x)).length), (10, .int .i64 (t : Int)), (32, .sl 1 0 0 3), (33, .int .i64 3), (34, .int .i64 (t : Int)), (44, .sl 2 0 0 R.length), (45, .int .i64 (R.length : Int)), (46, .int .i64 (x : Int))] [some (⟨0, 2, 1, (A ++ putB c (R.take x)).map V.str⟩), some (⟨0, 2, 1, [.int .i64 ((I : Int) - 1), .int .i64 (I : Int), .int .i64 ((I : Int) + 1)]⟩), some (⟨0, 2, 1, R.map V.str⟩)] (resM Try.f161)) R.length ?_ ?_ 0 _ (by omega) rfl ?_
      · intro x hx next'
        have eB := putB_succ c R A hx
        have lB : (A ++ putB c (R.take x)).length ≤ A.length + R.length := by simp [putB]; omega
        have sx := sR x hx
        have wX : IntKind.i64.wrap ((x : Int) + 1) = (x : Int) + 1 := IntWalk.i64_in _ (by omega)
        have hxi : (x : Int) < R.length := by omega
        have t2 : t ≤ 2 := by omega
        have t2i : (t : Int) + 1 ≤ 3 := by omega
        have t2n : t + 1 ≤ 3 := by omega
        have tq : (0 : Int) ≤ (t : Int) + 1 := by omega
        have szD : (⟨#[68, 76, 85]⟩ : ByteArray).size = 3 := rfl
        try dsimp only at next'
        rw [eB, if_neg (by simp)] at next'
        try dsimp only
        generalize hB : A ++ putB c (R.take x) = B at *
        have cB : (B.length + 1) * 16 ≤ 140737488355328 := by omega
        by_cases e1 : B = []
        · rw [if_pos e1]
          simp [go_sem, -map_replicate, -map_set, -map_append, -map_reverse, -map_take, -map_drop, -map_tail, -any_map, -all_map, -mapM_map, -map_map, slL, szI, ldI, zI, undL, apL, setI, rdI_get, Nat.add_one_le_iff, fillV, zeros1, zeros0, appendD, segV, lvO, goneOf, sliceD, bound, Nat.add_assoc, szL, ldL, setCs0, setCs1, setCs2, setCsA2, setCsA3, ldM, fM0, fM1, szM, zM, plM0, plM1, agM, paM, ldJ, fJ0, fJ1, fJ2, szJ, zJ, plJ0, plJ1, plJ2, agJ, paJ, hx, hxi, rdS_get, strOp, sx, wX, wS3, cB, cEx, t2, t2i, t2n, tq, szD, undStr, ldStr, szStr, slStr, apStr, undStrS, zStr, zerosS0, zerosS1, zerosS3, mapM_purN_str, flatMap_idsN_str, any_hasU_str]
          repeat refine ⟨by kernel_rfl, by kernel_rfl, ?_⟩
          refine next' _ rfl ?_
          (refine canon_mk ?_; simp [method_specs_simp, ordIds_app, ordRen_app, ordIds_app2, ordRen_app2, -map_replicate, -map_set, -map_append, -map_reverse, -map_take, -map_drop, -map_tail, -map_map, e1, ordIds_str, ordRen_str, ordIds_strA, ordRen_strA])
        · rw [if_neg e1]
          simp [go_sem, -map_replicate, -map_set, -map_append, -map_reverse, -map_take, -map_drop, -map_tail, -any_map, -all_map, -mapM_map, -map_map, slL, szI, ldI, zI, undL, apL, setI, rdI_get, Nat.add_one_le_iff, fillV, zeros1, zeros0, appendD, segV, lvO, goneOf, sliceD, bound, Nat.add_assoc, szL, ldL, setCs0, setCs1, setCs2, setCsA2, setCsA3, ldM, fM0, fM1, szM, zM, plM0, plM1, agM, paM, ldJ, fJ0, fJ1, fJ2, szJ, zJ, plJ0, plJ1, plJ2, agJ, paJ, hx, hxi, rdS_get, strOp, sx, wX, wS3, cB, cEx, t2, t2i, t2n, tq, szD, undStr, ldStr, szStr, slStr, apStr, undStrS, zStr, zerosS0, zerosS1, zerosS3, mapM_purN_str, flatMap_idsN_str, any_hasU_str]
          repeat refine ⟨by kernel_rfl, by kernel_rfl, ?_⟩
          refine next' _ rfl ?_
          (refine canon_mk ?_; simp [method_specs_simp, ordIds_app, ordRen_app, ordIds_app2, ordRen_app2, -map_replicate, -map_set, -map_append, -map_reverse, -map_take, -map_drop, -map_tail, -map_map, ordIds_str, ordRen_str, ordIds_strA, ordRen_strA])
      · try dsimp only
        rw [List.take_length]
        by_cases e2 : A ++ putB c R = []
        · rw [if_pos e2] at next ⊢
          simp [go_sem, -map_replicate, -map_set, -map_append, -map_reverse, -map_take, -map_drop, -map_tail, -any_map, -all_map, -mapM_map, -map_map, slL, szI, ldI, zI, undL, apL, setI, rdI_get, Nat.add_one_le_iff, fillV, zeros1, zeros0, appendD, segV, lvO, goneOf, sliceD, bound, Nat.add_assoc, szL, ldL, setCs0, setCs1, setCs2, setCsA2, setCsA3, ldM, fM0, fM1, szM, zM, plM0, plM1, agM, paM, ldJ, fJ0, fJ1, fJ2, szJ, zJ, plJ0, plJ1, plJ2, agJ, paJ, wS3, undStr, ldStr, szStr, slStr, apStr, undStrS, zStr, zerosS0, zerosS1, zerosS3, mapM_purN_str, flatMap_idsN_str, any_hasU_str]
          repeat refine ⟨by kernel_rfl, by kernel_rfl, ?_⟩
          refine next _ rfl ?_
          (refine canon_mk ?_; simp [method_specs_simp, ordIds_app, ordRen_app, ordIds_app2, ordRen_app2, -map_replicate, -map_set, -map_append, -map_reverse, -map_take, -map_drop, -map_tail, -map_map, ordIds_str, ordRen_str])
        · rw [if_neg e2] at next ⊢
          simp [go_sem, -map_replicate, -map_set, -map_append, -map_reverse, -map_take, -map_drop, -map_tail, -any_map, -all_map, -mapM_map, -map_map, slL, szI, ldI, zI, undL, apL, setI, rdI_get, Nat.add_one_le_iff, fillV, zeros1, zeros0, appendD, segV, lvO, goneOf, sliceD, bound, Nat.add_assoc, szL, ldL, setCs0, setCs1, setCs2, setCsA2, setCsA3, ldM, fM0, fM1, szM, zM, plM0, plM1, agM, paM, ldJ, fJ0, fJ1, fJ2, szJ, zJ, plJ0, plJ1, plJ2, agJ, paJ, wS3, undStr, ldStr, szStr, slStr, apStr, undStrS, zStr, zerosS0, zerosS1, zerosS3, mapM_purN_str, flatMap_idsN_str, any_hasU_str]
          repeat refine ⟨by kernel_rfl, by kernel_rfl, ?_⟩
          refine next _ rfl ?_
          (refine canon_mk ?_; simp [method_specs_simp, ordIds_app, ordRen_app, ordIds_app2, ordRen_app2, -map_replicate, -map_set, -map_append, -map_reverse, -map_take, -map_drop, -map_tail, -map_map, ordIds_str, ordRen_str])
      · have t0 : A ++ putB c (R.take 0) = A := by simp [putB]
        try dsimp only
        rw [t0, if_neg e0]
        (refine canon_mk ?_; simp [method_specs_simp, ordIds_app, ordRen_app, ordIds_app2, ordRen_app2, -map_replicate, -map_set, -map_append, -map_reverse, -map_take, -map_drop, -map_tail, -map_map, ordIds_str, ordRen_str])
  · try dsimp only
    have tR : List.take (accP h k n I 3).length (List.map V.str (accP h k n I 3)) = List.map V.str (accP h k n I 3) := take_map_full (Nat.le_refl _)
    generalize accP h k n I 3 = A at *
    by_cases e0 : A = []
    · rw [if_pos e0]
      rw [e0] at h3
      simp [go_sem, -map_replicate, -map_set, -map_append, -map_reverse, -map_take, -map_drop, -map_tail, -any_map, -all_map, -mapM_map, -map_map, slL, szI, ldI, zI, undL, apL, setI, rdI_get, Nat.add_one_le_iff, fillV, zeros1, zeros0, appendD, segV, lvO, goneOf, sliceD, bound, Nat.add_assoc, szL, ldL, setCs0, setCs1, setCs2, setCsA2, setCsA3, ldM, fM0, fM1, szM, zM, plM0, plM1, agM, paM, ldJ, fJ0, fJ1, fJ2, szJ, zJ, plJ0, plJ1, plJ2, agJ, paJ, undStr, ldStr, szStr, slStr, apStr, undStrS, zStr, zerosS0, zerosS1, zerosS3, mapM_purN_str, flatMap_idsN_str, any_hasU_str]
      simp [mvcgen_simp, -map_replicate, -map_set, -map_append, -map_reverse, -map_take, -map_drop, -map_tail, -any_map, -all_map, -mapM_map, -map_map, Try.f161, h3, ctStr, ctStrS, mapM_expN_str, flatMap_eidN_str, all_treeN_str, any_hasU_str]
    · rw [if_neg e0]
      simp [go_sem, -map_replicate, -map_set, -map_append, -map_reverse, -map_take, -map_drop, -map_tail, -any_map, -all_map, -mapM_map, -map_map, slL, szI, ldI, zI, undL, apL, setI, rdI_get, Nat.add_one_le_iff, fillV, zeros1, zeros0, appendD, segV, lvO, goneOf, sliceD, bound, Nat.add_assoc, szL, ldL, setCs0, setCs1, setCs2, setCsA2, setCsA3, ldM, fM0, fM1, szM, zM, plM0, plM1, agM, paM, ldJ, fJ0, fJ1, fJ2, szJ, zJ, plJ0, plJ1, plJ2, agJ, paJ, undStr, ldStr, szStr, slStr, apStr, undStrS, zStr, zerosS0, zerosS1, zerosS3, mapM_purN_str, flatMap_idsN_str, any_hasU_str]
      simp [mvcgen_simp, -map_replicate, -map_set, -map_append, -map_reverse, -map_take, -map_drop, -map_tail, -any_map, -all_map, -mapM_map, -map_map, Try.f161, h3, tR, ctStr, ctStrS, mapM_expN_str, flatMap_eidN_str, all_treeN_str, any_hasU_str]
  · try dsimp only
    rw [if_pos (show accP h k n I 0 = [] from rfl)]
    (refine canon_mk ?_; simp [method_specs_simp, ordIds_app, ordRen_app, ordIds_app2, ordRen_app2, -map_replicate, -map_set, -map_append, -map_reverse, -map_take, -map_drop, -map_tail, -map_map, ordIds_str, ordRen_str])
theorem run_pathsOf (k h : Nat) (hk : k ≤ 24) (hh : h ≤ 24) : ∀ (n : Nat), n ≤ 24 → ∀ i : Int, -1 ≤ i → i ≤ 100 → runv E1 161 [.int .i64 (n : Nat), .int .i64 i, .int .i64 k, .int .i64 h] = some ⟨true, .uniq 1 (pths h k n i).length ((pths h k n i).map V.str), [.undef, .undef, .undef, .undef]⟩
  | 0, _, i, h0, hi => run_pathsOf0 k h i hk hh h0 hi
  | n + 1, hn, i, h0, hi => run_pathsOfS k h n hk hh hn (run_pathsOf k h hk hh n (by omega)) i h0 hi
end Go.Proofs.Ytabnganndcmcnaa.Ev

set_option linter.unusedSimpArgs false
set_option linter.unusedVariables false
namespace Go.Proofs.Ytabnganndcmcnaa.Ev
open Go Go.Proofs
open List (map_replicate map_set map_append map_reverse map_take map_drop map_tail any_map all_map mapM_map map_map)
set_option maxRecDepth 4000
set_option maxHeartbeats 4000000

theorem undBy : Try.prog.underlying 22 = some (.slice 5) := by kernel_rfl
theorem slBy : slT Try.prog 22 = some (5, 1, 1) := by kernel_rfl
theorem szBy : szT Try.prog 5 = some 1 := by kernel_rfl
theorem ldBy : ldT Try.prog 5 = some (false, 1) := by kernel_rfl
theorem undBy8 : Try.prog.underlying 5 = some (.int .u8) := by kernel_rfl
theorem zBy : zeroT Try.prog 5 = some [.int .u8 0] := by kernel_rfl
theorem zerosBy : zerosV 1 [V.int .u8 0] = [.int .u8 0] := rfl
def dg (k : Nat) (o : ByteArray) : ByteArray := if h : k = 0 then o else dg (k / 10) (⟨#[48 + UInt8.ofNat (k % 10)]⟩ ++ o)
termination_by k
decreasing_by omega
theorem dg_0 (o : ByteArray) : dg 0 o = o := by rw [dg]; rfl
theorem dg_s {k : Nat} (h : k ≠ 0) (o : ByteArray) : dg k o = dg (k / 10) (⟨#[48 + UInt8.ofNat (k % 10)]⟩ ++ o) := by rw [dg, dif_neg h]
def mTx (k : Int) : ByteArray := ⟨#[109]⟩ ++ dg k.toNat ⟨#[]⟩
def marksS (k : Int) (n : Nat) : List ByteArray := (List.range n).map fun i : Nat => mTx (k + (i : Int))
theorem marksS_len (k : Int) (n : Nat) : (marksS k n).length = n := by simp [marksS]
theorem marksS_rd {k : Int} {n i : Nat} (h : i < n) : rdS (marksS k n) i = mTx (k + i) := by
  unfold rdS marksS; simp [h]
theorem marksS_succ (k : Int) (n : Nat) : marksS k (n + 1) = marksS k n ++ [mTx (k + n)] := by
  unfold marksS; rw [List.range_succ]; simp
theorem setStr {l : List ByteArray} {i : Nat} {x : ByteArray} (h : i < l.length) : setCs (l.map V.str) i [V.str x] = (l.set i x).map V.str := by
  unfold setCs
  rw [List.map_set, List.set_eq_take_append_cons_drop]
  simp [h]
end Go.Proofs.Ytabnganndcmcnaa.Ev

set_option linter.unusedSimpArgs false
set_option linter.unusedVariables false
namespace Go.Proofs.Ytabnganndcmcnaa.Ev
open Go Go.Proofs
open List (map_replicate map_set map_append map_reverse map_take map_drop map_tail any_map all_map mapM_map map_map)
set_option maxRecDepth 4000
set_option maxHeartbeats 4000000

def pathsR (n i k h : Int) : List ByteArray × Int :=
  if given n i k h then (if 400 < plc h k n.toNat i then ([], 3) else (pths h k n.toNat i, 0)) else ([], 2)
theorem pathsR_len (n i k h : Int) : (pathsR n i k h).1.length ≤ 400 := by
  unfold pathsR
  (repeat' split) <;> simp [pths_len] <;> omega
theorem run_specPathsOf (n i k h : Int) : runv E1 38 [.int .i64 n, .int .i64 i, .int .i64 k, .int .i64 h] = some ⟨true, .tup [.uniq 1 (pathsR n i k h).1.length ((pathsR n i k h).1.map V.str), .int .i64 (pathsR n i k h).2], [.undef, .undef, .undef, .undef]⟩ := by
  have cdk : codeOk Try.f38.ntmps (Try.f38.body.getD .skip) = true := by kernel_rfl
  refine run_of_WLr (fn := Try.f38) rfl Try.func38 rfl ⟨by simp [Try.ntmps38], by simp [wideA, ints], cdk, by simp [Try.f38]⟩ rfl (by simp [rebOk, noId, adoptT, adoptA, adoptL, adoptC, depth]) ?_
  have h1 := up (run_l09Given n i k h)
  cases e : given n i k h with
  | false =>
    rw [e] at h1
    have hps : pathsR n i k h = ([], 2) := by simp only [pathsR, e]; rfl
    simp [go_sem, -map_replicate, -map_set, -map_append, -map_reverse, -map_take, -map_drop, -map_tail, -any_map, -all_map, -mapM_map, -map_map, slL, szI, ldI, zI, undL, apL, setI, rdI_get, Nat.add_one_le_iff, fillV, zeros1, zeros0, appendD, segV, lvO, goneOf, sliceD, bound, Nat.add_assoc, szL, ldL, setCs0, setCs1, setCs2, setCsA2, setCsA3, ldM, fM0, fM1, szM, zM, plM0, plM1, agM, paM, ldJ, fJ0, fJ1, fJ2, szJ, zJ, plJ0, plJ1, plJ2, agJ, paJ, h1, undStr, ldStr, szStr, slStr, apStr, undStrS, zStr, zerosS0, zerosS1, zerosS3, mapM_purN_str, flatMap_idsN_str, any_hasU_str]
    simp [mvcgen_simp, -map_replicate, -map_set, -map_append, -map_reverse, -map_take, -map_drop, -map_tail, -any_map, -all_map, -mapM_map, -map_map, Try.f38, hps, ctStr, ctStrS, mapM_expN_str, flatMap_eidN_str, all_treeN_str, any_hasU_str]
  | true =>
    rw [e] at h1
    have e' := e
    simp only [given, Bool.and_eq_true] at e'
    obtain ⟨n, rfl, hn⟩ := counted_nat e'.1.1.1
    obtain ⟨i, rfl, hi⟩ := counted_nat e'.1.1.2
    obtain ⟨k, rfl, hk⟩ := counted_nat e'.1.2
    obtain ⟨h, rfl, hh⟩ := counted_nat e'.2
    have h2 := up (run_l09Count n i k h false (by omega) (by omega) (by omega))
    rw [Bool.not_false, ← counts_agree, cnt_plc n i k h hn] at h2
    have h3 := run_l09Paths k h hk hh n hn i (by omega)
    by_cases c : 400 < plc h k n i
    · have ci : (400 : Int) < (plc h k n i : Int) := by omega
      have hps : pathsR n i k h = ([], 3) := by simp only [pathsR, e, Int.toNat_natCast, c, if_true]
      simp [go_sem, -map_replicate, -map_set, -map_append, -map_reverse, -map_take, -map_drop, -map_tail, -any_map, -all_map, -mapM_map, -map_map, slL, szI, ldI, zI, undL, apL, setI, rdI_get, Nat.add_one_le_iff, fillV, zeros1, zeros0, appendD, segV, lvO, goneOf, sliceD, bound, Nat.add_assoc, szL, ldL, setCs0, setCs1, setCs2, setCsA2, setCsA3, ldM, fM0, fM1, szM, zM, plM0, plM1, agM, paM, ldJ, fJ0, fJ1, fJ2, szJ, zJ, plJ0, plJ1, plJ2, agJ, paJ, h1, h2, c, ci, undStr, ldStr, szStr, slStr, apStr, undStrS, zStr, zerosS0, zerosS1, zerosS3, mapM_purN_str, flatMap_idsN_str, any_hasU_str]
      simp [mvcgen_simp, -map_replicate, -map_set, -map_append, -map_reverse, -map_take, -map_drop, -map_tail, -any_map, -all_map, -mapM_map, -map_map, Try.f38, hps, ctStr, ctStrS, mapM_expN_str, flatMap_eidN_str, all_treeN_str, any_hasU_str]
    · have ci : ¬ (400 : Int) < (plc h k n i : Int) := by omega
      have hps : pathsR n i k h = (pths h k n i, 0) := by simp only [pathsR, e, Int.toNat_natCast, c, if_true, if_false]
      simp [go_sem, -map_replicate, -map_set, -map_append, -map_reverse, -map_take, -map_drop, -map_tail, -any_map, -all_map, -mapM_map, -map_map, slL, szI, ldI, zI, undL, apL, setI, rdI_get, Nat.add_one_le_iff, fillV, zeros1, zeros0, appendD, segV, lvO, goneOf, sliceD, bound, Nat.add_assoc, szL, ldL, setCs0, setCs1, setCs2, setCsA2, setCsA3, ldM, fM0, fM1, szM, zM, plM0, plM1, agM, paM, ldJ, fJ0, fJ1, fJ2, szJ, zJ, plJ0, plJ1, plJ2, agJ, paJ, h1, h2, h3, c, ci, undStr, ldStr, szStr, slStr, apStr, undStrS, zStr, zerosS0, zerosS1, zerosS3, mapM_purN_str, flatMap_idsN_str, any_hasU_str]
      repeat refine ⟨by kernel_rfl, by kernel_rfl, ?_⟩
      simp [mvcgen_simp, -map_replicate, -map_set, -map_append, -map_reverse, -map_take, -map_drop, -map_tail, -any_map, -all_map, -mapM_map, -map_map, Try.f38, hps, ctStr, ctStrS, mapM_expN_str, flatMap_eidN_str, all_treeN_str, any_hasU_str]
theorem run_implPathsOf (n i k h : Int) : runv E1 37 [.int .i64 n, .int .i64 i, .int .i64 k, .int .i64 h] = some ⟨true, .tup [.uniq 1 (pathsR n i k h).1.length ((pathsR n i k h).1.map V.str), .int .i64 (pathsR n i k h).2], [.undef, .undef, .undef, .undef]⟩ := by
  have cdk : codeOk Try.f37.ntmps (Try.f37.body.getD .skip) = true := by kernel_rfl
  refine run_of_WLr (fn := Try.f37) rfl Try.func37 rfl ⟨by simp [Try.ntmps37], by simp [wideA, ints], cdk, by simp [Try.f37]⟩ rfl (by simp [rebOk, noId, adoptT, adoptA, adoptL, adoptC, depth]) ?_
  have h1 : runv E0 159 [.list 4 [.int .i64 n, .int .i64 i, .int .i64 k, .int .i64 h]] = some ⟨true, .bool (given n i k h), [.undef]⟩ := by
    have := run_areCounted [n, i, k, h] (by simp)
    simpa [ints, given, counted, Bool.and_assoc] using this
  have h1 := up h1
  have z4 : zerosV 4 [V.int .i64 0] = [.int .i64 0, .int .i64 0, .int .i64 0, .int .i64 0] := rfl
  cases e : given n i k h with
  | false =>
    rw [e] at h1
    have hps : pathsR n i k h = ([], 2) := by simp only [pathsR, e]; rfl
    simp [go_sem, -map_replicate, -map_set, -map_append, -map_reverse, -map_take, -map_drop, -map_tail, -any_map, -all_map, -mapM_map, -map_map, slL, szI, ldI, zI, undL, apL, setI, rdI_get, Nat.add_one_le_iff, fillV, zeros1, zeros0, appendD, segV, lvO, goneOf, sliceD, bound, Nat.add_assoc, szL, ldL, setCs0, setCs1, setCs2, setCsA2, setCsA3, ldM, fM0, fM1, szM, zM, plM0, plM1, agM, paM, ldJ, fJ0, fJ1, fJ2, szJ, zJ, plJ0, plJ1, plJ2, agJ, paJ, h1, z4, undStr, ldStr, szStr, slStr, apStr, undStrS, zStr, zerosS0, zerosS1, zerosS3, mapM_purN_str, flatMap_idsN_str, any_hasU_str]
    simp [mvcgen_simp, -map_replicate, -map_set, -map_append, -map_reverse, -map_take, -map_drop, -map_tail, -any_map, -all_map, -mapM_map, -map_map, Try.f37, hps, ctStr, ctStrS, mapM_expN_str, flatMap_eidN_str, all_treeN_str, any_hasU_str]
  | true =>
    rw [e] at h1
    have e' := e
    simp only [given, Bool.and_eq_true] at e'
    obtain ⟨n, rfl, hn⟩ := counted_nat e'.1.1.1
    obtain ⟨i, rfl, hi⟩ := counted_nat e'.1.1.2
    obtain ⟨k, rfl, hk⟩ := counted_nat e'.1.2
    obtain ⟨h, rfl, hh⟩ := counted_nat e'.2
    have h2 := up (run_countPaths n i k h true (by omega) (by omega))
    rw [cnt_plc n i k h hn] at h2
    have h3 := run_pathsOf k h hk hh n hn i (by omega) (by omega)
    by_cases c : 400 < plc h k n i
    · have ci : (400 : Int) < (plc h k n i : Int) := by omega
      have hps : pathsR n i k h = ([], 3) := by simp only [pathsR, e, Int.toNat_natCast, c, if_true]
      simp [go_sem, -map_replicate, -map_set, -map_append, -map_reverse, -map_take, -map_drop, -map_tail, -any_map, -all_map, -mapM_map, -map_map, slL, szI, ldI, zI, undL, apL, setI, rdI_get, Nat.add_one_le_iff, fillV, zeros1, zeros0, appendD, segV, lvO, goneOf, sliceD, bound, Nat.add_assoc, szL, ldL, setCs0, setCs1, setCs2, setCsA2, setCsA3, ldM, fM0, fM1, szM, zM, plM0, plM1, agM, paM, ldJ, fJ0, fJ1, fJ2, szJ, zJ, plJ0, plJ1, plJ2, agJ, paJ, h1, h2, z4, c, ci, undStr, ldStr, szStr, slStr, apStr, undStrS, zStr, zerosS0, zerosS1, zerosS3, mapM_purN_str, flatMap_idsN_str, any_hasU_str]
      simp [mvcgen_simp, -map_replicate, -map_set, -map_append, -map_reverse, -map_take, -map_drop, -map_tail, -any_map, -all_map, -mapM_map, -map_map, Try.f37, hps, ctStr, ctStrS, mapM_expN_str, flatMap_eidN_str, all_treeN_str, any_hasU_str]
    · have ci : ¬ (400 : Int) < (plc h k n i : Int) := by omega
      have hps : pathsR n i k h = (pths h k n i, 0) := by simp only [pathsR, e, Int.toNat_natCast, c, if_true, if_false]
      simp [go_sem, -map_replicate, -map_set, -map_append, -map_reverse, -map_take, -map_drop, -map_tail, -any_map, -all_map, -mapM_map, -map_map, slL, szI, ldI, zI, undL, apL, setI, rdI_get, Nat.add_one_le_iff, fillV, zeros1, zeros0, appendD, segV, lvO, goneOf, sliceD, bound, Nat.add_assoc, szL, ldL, setCs0, setCs1, setCs2, setCsA2, setCsA3, ldM, fM0, fM1, szM, zM, plM0, plM1, agM, paM, ldJ, fJ0, fJ1, fJ2, szJ, zJ, plJ0, plJ1, plJ2, agJ, paJ, h1, h2, h3, z4, c, ci, undStr, ldStr, szStr, slStr, apStr, undStrS, zStr, zerosS0, zerosS1, zerosS3, mapM_purN_str, flatMap_idsN_str, any_hasU_str]
      repeat refine ⟨by kernel_rfl, by kernel_rfl, ?_⟩
      simp [mvcgen_simp, -map_replicate, -map_set, -map_append, -map_reverse, -map_take, -map_drop, -map_tail, -any_map, -all_map, -mapM_map, -map_map, Try.f37, hps, ctStr, ctStrS, mapM_expN_str, flatMap_eidN_str, all_treeN_str, any_hasU_str]
end Go.Proofs.Ytabnganndcmcnaa.Ev
