/- NamedJacobi: both texts and the law. Conditions: none. -/
import Derived.Test.YtacfkfdnncgjcaaFnBA
import Derived.Test.YtacfkfdnncgjcaaFnI
set_option linter.unusedSimpArgs false
set_option linter.unusedVariables false
namespace Go.Proofs.Ytacfkfdnncgjcaa.Ev
open Go Go.Proofs
open List (map_replicate map_set map_append map_reverse map_take map_drop map_tail any_map all_map mapM_map map_map)
set_option maxRecDepth 4000
set_option maxHeartbeats 4000000
attribute [local bitvec_to_nat] slL szI ldI zI undL apL setI rdI_get Nat.add_one_le_iff fillV zeros1 zeros0 appendD segV lvO goneOf sliceD bound Nat.add_assoc szL ldL setCs0 setCs1 setCs2 setCsA2 setCsA3 ldM fM0 fM1 szM zM plM0 plM1 agM paM ldJ fJ0 fJ1 fJ2 szJ zJ plJ0 plJ1 plJ2 agJ paJ

def nHerm : List UInt8 := [104, 101, 114, 109, 105, 116, 101]
def nLag : List UInt8 := [108, 97, 103, 117, 101, 114, 114, 101]
def nPoi : List UInt8 := [112, 111, 105, 115, 115, 111, 110]
def nCat : List UInt8 := [99, 97, 116, 97, 108, 97, 110]
def nSec : List UInt8 := [115, 101, 99, 111, 110, 100]
def nLeg : List UInt8 := [108, 101, 103, 101, 110, 100, 114, 101]
/-- Which name is it? -/
def nk (s : ByteArray) : Nat :=
  if s.toList == nHerm then 1 else if s.toList == nLag then 2 else if s.toList == nPoi then 3 else if s.toList == nCat then 4 else if s.toList == nSec then 5 else if s.toList == nLeg then 6 else 0
/-- What the tests of a name come to. -/
def NK (s : ByteArray) (n : Nat) : Prop :=
  (s.toList == nHerm) = decide (n = 1) ∧ (s.toList == nLag) = decide (n = 2) ∧ (s.toList == nPoi) = decide (n = 3) ∧ (s.toList == nCat) = decide (n = 4) ∧ (s.toList == nSec) = decide (n = 5) ∧ (s.toList == nLeg) = decide (n = 6)
theorem nk_spec (s : ByteArray) : NK s (nk s) ∧ nk s ≤ 6 := by
  unfold NK nk
  by_cases h1 : (s.toList == nHerm) = true
  · have e := eq_of_beq h1; rw [e]; decide +kernel
  by_cases h2 : (s.toList == nLag) = true
  · have e := eq_of_beq h2; rw [e]; decide +kernel
  by_cases h3 : (s.toList == nPoi) = true
  · have e := eq_of_beq h3; rw [e]; decide +kernel
  by_cases h4 : (s.toList == nCat) = true
  · have e := eq_of_beq h4; rw [e]; decide +kernel
  by_cases h5 : (s.toList == nSec) = true
  · have e := eq_of_beq h5; rw [e]; decide +kernel
  by_cases h6 : (s.toList == nLeg) = true
  · have e := eq_of_beq h6; rw [e]; decide +kernel
  · simp only [Bool.not_eq_true] at h1 h2 h3 h4 h5 h6
    simp [h1, h2, h3, h4, h5, h6]
def naA (n : Nat) (k : Nat) : Int := if n = 2 then 2 * (k : Int) + 1 else if n = 3 then (k : Int) + 1 else if n = 4 then (if k = 0 then 1 else 2) else 0
def naU (n : Nat) (k : Nat) : Int := if n = 4 ∨ n = 5 then 1 else if k = 0 then (if n = 6 then 2 else 1) else if n = 2 ∨ n = 6 then (k : Int) * k else k
def naL (n : Nat) (k : Nat) : Int := if k = 0 then 1 else if n = 5 then 4 else if n = 6 then 4 * (k : Int) * k - 1 else 1
theorem sq_small {k : Nat} (hk : k ≤ 12) : (0 : Int) ≤ (k : Int) * k ∧ (k : Int) * k ≤ 144 := by
  have h := Nat.mul_le_mul hk hk
  have e : (k : Int) * k = ((k * k : Nat) : Int) := by simp
  rw [e]; omega
theorem sq_pos {k : Nat} (hk : k ≠ 0) : 1 ≤ (k : Int) * k := by
  have h : 0 < k * k := Nat.mul_pos (by omega) (by omega)
  have e : (k : Int) * k = ((k * k : Nat) : Int) := by simp
  rw [e]; omega
theorem na_small (n k : Nat) (hk : k ≤ 12) : (0 ≤ naA n k ∧ naA n k ≤ 1000) ∧ (0 ≤ naU n k ∧ naU n k ≤ 1000) ∧ 0 ≤ naL n k ∧ naL n k ≤ 1000 := by
  have h1 : (0 : Int) ≤ (k : Int) * k ∧ (k : Int) * k ≤ 144 := by
    exact sq_small hk
  have h2 : 4 * (k : Int) * k = 4 * ((k : Int) * k) := Int.mul_assoc ..
  have h3 : k ≠ 0 → 1 ≤ (k : Int) * k := fun h => by
    exact sq_pos h
  refine ⟨?_, ?_, ?_⟩
  · unfold naA; (repeat' split) <;> omega
  · unfold naU; (repeat' split) <;> omega
  · unfold naL; (repeat' split) <;> first | omega | (have := h3 (by assumption); omega)
theorem run_l10Known (s : ByteArray) : runv E1 110 [.str s] = some ⟨true, .bool (decide (¬ nk s = 0)), [.undef]⟩ := by
  have cdk : codeOk Try.f110.ntmps (Try.f110.body.getD .skip) = true := by kernel_rfl
  refine run_of_WLr (fn := Try.f110) rfl Try.func110 rfl ⟨by simp [Try.ntmps110], by simp [wideA, ints], cdk, by simp [Try.f110]⟩ rfl (by simp [rebOk, noId, adoptT, adoptA, adoptL, adoptC, depth]) ?_
  obtain ⟨⟨e1, e2, e3, e4, e5, e6⟩, hn⟩ := nk_spec s
  unfold nHerm at e1; unfold nLag at e2; unfold nPoi at e3; unfold nCat at e4; unfold nSec at e5; unfold nLeg at e6
  generalize nk s = n at *
  have : n = 0 ∨ n = 1 ∨ n = 2 ∨ n = 3 ∨ n = 4 ∨ n = 5 ∨ n = 6 := by omega
  rcases this with rfl | rfl | rfl | rfl | rfl | rfl | rfl <;> simp [go_sem, -map_replicate, -map_set, -map_append, -map_reverse, -map_take, -map_drop, -map_tail, -any_map, -all_map, -mapM_map, -map_map, bitvec_to_nat, undS, strOp, wz0, wz1, e1, e2, e3, e4, e5, e6] <;> simp [mvcgen_simp, -map_replicate, -map_set, -map_append, -map_reverse, -map_take, -map_drop, -map_tail, -any_map, -all_map, -mapM_map, -map_map, Try.f110]
theorem run_l10Alpha (s : ByteArray) (k : Nat) (hk : k ≤ 12) : runv E1 112 [.str s, .int .i64 (k : Int)] = some ⟨true, .int .i64 (naA (nk s) k), [.undef, .undef]⟩ := by
  have cdk : codeOk Try.f112.ntmps (Try.f112.body.getD .skip) = true := by kernel_rfl
  refine run_of_WLr (fn := Try.f112) rfl Try.func112 rfl ⟨by simp [Try.ntmps112], by simp [wideA, ints], cdk, by simp [Try.f112]⟩ rfl (by simp [rebOk, noId, adoptT, adoptA, adoptL, adoptC, depth]) ?_
  obtain ⟨⟨e1, e2, e3, e4, e5, e6⟩, hn⟩ := nk_spec s
  unfold nHerm at e1; unfold nLag at e2; unfold nPoi at e3; unfold nCat at e4; unfold nSec at e5; unfold nLeg at e6
  generalize nk s = n at *
  have w1 : IntKind.i64.wrap (2 * (k : Int)) = 2 * (k : Int) := IntWalk.i64_in _ (by omega)
  have w2 : IntKind.i64.wrap (2 * (k : Int) + 1) = 2 * (k : Int) + 1 := IntWalk.i64_in _ (by omega)
  have w3 : IntKind.i64.wrap ((k : Int) + 1) = (k : Int) + 1 := IntWalk.i64_in _ (by omega)
  have : n = 0 ∨ n = 1 ∨ n = 2 ∨ n = 3 ∨ n = 4 ∨ n = 5 ∨ n = 6 := by omega
  by_cases k0 : (k : Int) = 0
  all_goals
    have k0' := k0
    rw [show (k : Int) = 0 ↔ k = 0 by omega] at k0'
    rcases this with rfl | rfl | rfl | rfl | rfl | rfl | rfl <;> simp [go_sem, -map_replicate, -map_set, -map_append, -map_reverse, -map_take, -map_drop, -map_tail, -any_map, -all_map, -mapM_map, -map_map, bitvec_to_nat, undS, strOp, wz0, wz1, e1, e2, e3, e4, e5, e6, w1, w2, w3, k0, k0'] <;> simp [mvcgen_simp, -map_replicate, -map_set, -map_append, -map_reverse, -map_take, -map_drop, -map_tail, -any_map, -all_map, -mapM_map, -map_map, Try.f112, naA, k0']
theorem run_l10Beta (s : ByteArray) (k : Nat) (hk : k ≤ 12) : runv E1 111 [.str s, .int .i64 (k : Int)] = some ⟨true, .tup [.int .i64 (naU (nk s) k), .int .i64 (naL (nk s) k)], [.undef, .undef]⟩ := by
  have cdk : codeOk Try.f111.ntmps (Try.f111.body.getD .skip) = true := by kernel_rfl
  refine run_of_WLr (fn := Try.f111) rfl Try.func111 rfl ⟨by simp [Try.ntmps111], by simp [wideA, ints], cdk, by simp [Try.f111]⟩ rfl (by simp [rebOk, noId, adoptT, adoptA, adoptL, adoptC, depth]) ?_
  obtain ⟨⟨e1, e2, e3, e4, e5, e6⟩, hn⟩ := nk_spec s
  unfold nHerm at e1; unfold nLag at e2; unfold nPoi at e3; unfold nCat at e4; unfold nSec at e5; unfold nLeg at e6
  have hs := na_small (nk s) k hk
  generalize nk s = n at *
  have h1 : (0 : Int) ≤ (k : Int) * k ∧ (k : Int) * k ≤ 144 := by
    exact sq_small hk
  have h2 : 4 * (k : Int) * k = 4 * ((k : Int) * k) := Int.mul_assoc ..
  have w1 : IntKind.i64.wrap ((k : Int) * k) = (k : Int) * k := IntWalk.i64_in _ (by omega)
  have w2 : IntKind.i64.wrap (4 * (k : Int)) = 4 * (k : Int) := IntWalk.i64_in _ (by omega)
  have w3 : IntKind.i64.wrap (4 * (k : Int) * k) = 4 * (k : Int) * k := IntWalk.i64_in _ (by omega)
  have w4 : IntKind.i64.wrap (4 * (k : Int) * k - 1) = 4 * (k : Int) * k - 1 := IntWalk.i64_in _ (by omega)
  have : n = 0 ∨ n = 1 ∨ n = 2 ∨ n = 3 ∨ n = 4 ∨ n = 5 ∨ n = 6 := by omega
  by_cases k0 : (k : Int) = 0
  all_goals
    have k0' := k0
    rw [show (k : Int) = 0 ↔ k = 0 by omega] at k0'
    rcases this with rfl | rfl | rfl | rfl | rfl | rfl | rfl <;> simp [go_sem, -map_replicate, -map_set, -map_append, -map_reverse, -map_take, -map_drop, -map_tail, -any_map, -all_map, -mapM_map, -map_map, bitvec_to_nat, undS, strOp, wz0, wz1, e1, e2, e3, e4, e5, e6, w1, w2, w3, w4, k0, k0'] <;> simp [mvcgen_simp, -map_replicate, -map_set, -map_append, -map_reverse, -map_take, -map_drop, -map_tail, -any_map, -all_map, -mapM_map, -map_map, Try.f111, naU, naL, k0']
theorem run_namedBeta (s : ByteArray) (k : Nat) (hk : k ≤ 12) : runv E1 107 [.str s, .int .i64 (k : Int)] = some ⟨true, if nk s = 0 then .tup [.int .i64 0, .int .i64 0, .bool false] else .tup [.int .i64 (naU (nk s) k), .int .i64 (naL (nk s) k), .bool true], [.undef, .undef]⟩ := by
  have cdk : codeOk Try.f107.ntmps (Try.f107.body.getD .skip) = true := by kernel_rfl
  refine run_of_WLr (fn := Try.f107) rfl Try.func107 rfl ⟨by simp [Try.ntmps107], by simp [wideA, ints], cdk, by simp [Try.f107]⟩ rfl (by simp [rebOk, noId, adoptT, adoptA, adoptL, adoptC, depth]) ?_
  obtain ⟨⟨e1, e2, e3, e4, e5, e6⟩, hn⟩ := nk_spec s
  unfold nHerm at e1; unfold nLag at e2; unfold nPoi at e3; unfold nCat at e4; unfold nSec at e5; unfold nLeg at e6
  have hs := na_small (nk s) k hk
  generalize nk s = n at *
  have h1 : (0 : Int) ≤ (k : Int) * k ∧ (k : Int) * k ≤ 144 := by
    exact sq_small hk
  have h3 : k ≠ 0 → 1 ≤ (k : Int) * k := fun h => by
    exact sq_pos h
  have h2 : 4 * (k : Int) * k = 4 * ((k : Int) * k) := Int.mul_assoc ..
  have w1 : IntKind.i64.wrap ((k : Int) * k) = (k : Int) * k := IntWalk.i64_in _ (by omega)
  have w2 : IntKind.i64.wrap (4 * (k : Int)) = 4 * (k : Int) := IntWalk.i64_in _ (by omega)
  have w3 : IntKind.i64.wrap (4 * (k : Int) * k) = 4 * (k : Int) * k := IntWalk.i64_in _ (by omega)
  have w4 : IntKind.i64.wrap (4 * (k : Int) * k - 1) = 4 * (k : Int) * k - 1 := IntWalk.i64_in _ (by omega)
  have : n = 0 ∨ n = 1 ∨ n = 2 ∨ n = 3 ∨ n = 4 ∨ n = 5 ∨ n = 6 := by omega
  by_cases k0 : (k : Int) = 0
  all_goals
    have k0' := k0
    rw [show (k : Int) = 0 ↔ k = 0 by omega] at k0'
  · subst k0'
    rcases this with rfl | rfl | rfl | rfl | rfl | rfl | rfl <;> simp [go_sem, -map_replicate, -map_set, -map_append, -map_reverse, -map_take, -map_drop, -map_tail, -any_map, -all_map, -mapM_map, -map_map, bitvec_to_nat, undS, strOp, wz0, wz1, e1, e2, e3, e4, e5, e6, w1, w2, w3, w4, mmV, mxI] <;> simp [mvcgen_simp, -map_replicate, -map_set, -map_append, -map_reverse, -map_take, -map_drop, -map_tail, -any_map, -all_map, -mapM_map, -map_map, Try.f107, naU, naL]
  · have x1 : ¬ (k : Int) < 1 := by omega
    have x2 := h3 k0'
    have x3 : ¬ (k : Int) * k < 1 := by omega
    have x4 : ((1 : Int) > (k : Int)) = False := by simp; omega
    have x5 : ((1 : Int) > (k : Int) * k) = False := by simp; omega
    rcases this with rfl | rfl | rfl | rfl | rfl | rfl | rfl <;> simp [go_sem, -map_replicate, -map_set, -map_append, -map_reverse, -map_take, -map_drop, -map_tail, -any_map, -all_map, -mapM_map, -map_map, bitvec_to_nat, undS, strOp, wz0, wz1, e1, e2, e3, e4, e5, e6, w1, w2, w3, w4, k0, k0', mmV, mxI, x1, x3, x4, x5] <;> simp [mvcgen_simp, -map_replicate, -map_set, -map_append, -map_reverse, -map_take, -map_drop, -map_tail, -any_map, -all_map, -mapM_map, -map_map, Try.f107, naU, naL, k0']
theorem run_namedAlpha (s : ByteArray) (k : Nat) (hk : k ≤ 12) : runv E1 108 [.str s, .int .i64 (k : Int)] = some ⟨true, .int .i64 (naA (nk s) k), [.undef, .undef]⟩ := by
  have cdk : codeOk Try.f108.ntmps (Try.f108.body.getD .skip) = true := by kernel_rfl
  refine run_of_WLr (fn := Try.f108) rfl Try.func108 rfl ⟨by simp [Try.ntmps108], by simp [wideA, ints], cdk, by simp [Try.f108]⟩ rfl (by simp [rebOk, noId, adoptT, adoptA, adoptL, adoptC, depth]) ?_
  obtain ⟨⟨e1, e2, e3, e4, e5, e6⟩, hn⟩ := nk_spec s
  unfold nHerm at e1; unfold nLag at e2; unfold nPoi at e3; unfold nCat at e4; unfold nSec at e5; unfold nLeg at e6
  generalize nk s = n at *
  have w1 : IntKind.i64.wrap (2 * (k : Int)) = 2 * (k : Int) := IntWalk.i64_in _ (by omega)
  have w2 : IntKind.i64.wrap (2 * (k : Int) + 1) = 2 * (k : Int) + 1 := IntWalk.i64_in _ (by omega)
  have w3 : IntKind.i64.wrap ((k : Int) + 1) = (k : Int) + 1 := IntWalk.i64_in _ (by omega)
  have : n = 0 ∨ n = 1 ∨ n = 2 ∨ n = 3 ∨ n = 4 ∨ n = 5 ∨ n = 6 := by omega
  have hm : mmV mnI [V.int .i64 ((k : Int) + 1), V.int .i64 2] = some (V.int .i64 (if k = 0 then 1 else 2)) := by
    simp [mmV, mnI]
    (repeat' split) <;> omega
  rcases this with rfl | rfl | rfl | rfl | rfl | rfl | rfl <;> simp [go_sem, -map_replicate, -map_set, -map_append, -map_reverse, -map_take, -map_drop, -map_tail, -any_map, -all_map, -mapM_map, -map_map, bitvec_to_nat, undS, strOp, wz0, wz1, e1, e2, e3, e4, e5, e6, w1, w2, w3, hm] <;> simp [mvcgen_simp, -map_replicate, -map_set, -map_append, -map_reverse, -map_take, -map_drop, -map_tail, -any_map, -all_map, -mapM_map, -map_map, Try.f108, naA]

def nmA (p : Int) (n : Nat) (k : Nat) : Int := naA n k % p
def nmB (p : Int) (n : Nat) (k : Nat) : Int := divP p (naU n k % p) (naL n k % p)
def nmOk (p : Int) (m : Nat) (n : Nat) : Bool := (List.range n).all fun k => decide (¬ naU m k % p = 0) && decide (¬ naL m k % p = 0)
def namedJ (s : ByteArray) (p n : Int) : Int × List Int × List Int × Int :=
  if primeB p && (decide (1 ≤ n) && decide (n ≤ 12)) then (if nk s = 0 then (0, [], [], 4) else if nmOk p (nk s) n.toNat then (p, tab n.toNat (nmA p (nk s)), tab n.toNat (nmB p (nk s)), 0) else (0, [], [], 5)) else (0, [], [], 2)
theorem namedJ_len (s : ByteArray) (p n : Int) (hs : s.size ≤ 1048576) : (namedJ s p n).2.1.length ≤ 1048576 ∧ (namedJ s p n).2.2.1.length ≤ 1048576 := by
  unfold namedJ
  split
  · rename_i h
    simp only [Bool.and_eq_true, decide_eq_true_eq] at h
    (repeat' split) <;> simp [tab_len] <;> omega
  · simp
theorem primeB_range {p : Int} (h : primeB p = true) : 2 ≤ p ∧ p ≤ 10007 := by
  simp only [primeB, Bool.and_eq_true, decide_eq_true_eq] at h; omega
theorem run_specNamedJacobi (s : ByteArray) (p n : Int) (hs : s.size ≤ 1048576) :
    runv E1 37 [.str s, .int .i64 p, .int .i64 n] = some ⟨true, .tup [(V.agg [V.int .i64 ((namedJ s p n).1), (V.uniq 1 (List.length ((namedJ s p n).2.1)) (List.map (V.int .i64) ((namedJ s p n).2.1))), (V.uniq 1 (List.length ((namedJ s p n).2.2.1)) (List.map (V.int .i64) ((namedJ s p n).2.2.1)))]), .int .i64 (namedJ s p n).2.2.2], [.undef, .undef, .undef]⟩ := by
  have cdk : codeOk Try.f37.ntmps (Try.f37.body.getD .skip) = true := by kernel_rfl
  refine run_of_WLr (fn := Try.f37) rfl Try.func37 rfl ⟨by simp [Try.ntmps37], by simp [wideA, ints], cdk, by simp [Try.f37]⟩ rfl (by simp [rebOk, noId, adoptT, adoptA, adoptL, adoptC, depth]) ?_
  have h1 := up (run_l01Prime p)
  have h2 := up (run_l01In' n 1 12)
  have h3 := run_l10Known s
  cases e1 : primeB p with
  | false =>
    rw [e1] at h1
    simp [go_sem, -map_replicate, -map_set, -map_append, -map_reverse, -map_take, -map_drop, -map_tail, -any_map, -all_map, -mapM_map, -map_map, bitvec_to_nat, h1, fillV]
    simp [mvcgen_simp, -map_replicate, -map_set, -map_append, -map_reverse, -map_take, -map_drop, -map_tail, -any_map, -all_map, -mapM_map, -map_map, Try.f37, namedJ, e1, szL, ldL, setCs0, setCs1, setCs2, setCsA2, setCsA3, ldM, fM0, fM1, szM, zM, plM0, plM1, agM, paM, ldJ, fJ0, fJ1, fJ2, szJ, zJ, plJ0, plJ1, plJ2, agJ, paJ, ctJ, loadD, viewN]
  | true =>
    rw [e1] at h1
    cases e2 : (decide (1 ≤ n) && decide (n ≤ 12)) with
    | false =>
      rw [e2] at h2
      have hps : namedJ s p n = (0, [], [], 2) := by simp only [namedJ, e1, e2]; rfl
      simp [go_sem, -map_replicate, -map_set, -map_append, -map_reverse, -map_take, -map_drop, -map_tail, -any_map, -all_map, -mapM_map, -map_map, bitvec_to_nat, h1, h2, fillV]
      simp [mvcgen_simp, -map_replicate, -map_set, -map_append, -map_reverse, -map_take, -map_drop, -map_tail, -any_map, -all_map, -mapM_map, -map_map, Try.f37, hps, szL, ldL, setCs0, setCs1, setCs2, setCsA2, setCsA3, ldM, fM0, fM1, szM, zM, plM0, plM1, agM, paM, ldJ, fJ0, fJ1, fJ2, szJ, zJ, plJ0, plJ1, plJ2, agJ, paJ, ctJ, loadD, viewN]
    | true =>
      rw [e2] at h2
      by_cases e3 : nk s = 0
      · have hps : namedJ s p n = (0, [], [], 4) := by simp only [namedJ, e1, e2, e3]; rfl
        rw [decide_eq_false (not_not_intro e3)] at h3
        simp [go_sem, -map_replicate, -map_set, -map_append, -map_reverse, -map_take, -map_drop, -map_tail, -any_map, -all_map, -mapM_map, -map_map, bitvec_to_nat, h1, h2, h3, fillV]
        simp [mvcgen_simp, -map_replicate, -map_set, -map_append, -map_reverse, -map_take, -map_drop, -map_tail, -any_map, -all_map, -mapM_map, -map_map, Try.f37, hps, szL, ldL, setCs0, setCs1, setCs2, setCsA2, setCsA3, ldM, fM0, fM1, szM, zM, plM0, plM1, agM, paM, ldJ, fJ0, fJ1, fJ2, szJ, zJ, plJ0, plJ1, plJ2, agJ, paJ, ctJ, loadD, viewN]
      · rw [decide_eq_true e3] at h3
        have hp := primeB_range e1
        have hn : 1 ≤ n ∧ n ≤ 12 := by simpa using e2
        obtain ⟨N, rfl⟩ : ∃ N : Nat, n = N := ⟨n.toNat, by omega⟩
        have hok : namedJ s p N = if nmOk p (nk s) N then (p, tab N (nmA p (nk s)), tab N (nmB p (nk s)), 0) else (0, [], [], 5) := by simp only [namedJ, e1, e2, e3, Int.toNat_natCast]; rfl
        simp [go_sem, -map_replicate, -map_set, -map_append, -map_reverse, -map_take, -map_drop, -map_tail, -any_map, -all_map, -mapM_map, -map_map, bitvec_to_nat, h1, h2, h3, fillV]
        rw [WL_loop]
        have nks := na_small (nk s)
        have hal := run_l10Alpha s
        have hbe := run_l10Beta s
        have hpn : ¬ p = 0 := by omega
        generalize nk s = m at *
        refine WL_forP (keep := [0, 1, 2, 6, 8, 9]) (rs := resM Try.f37) rfl (by kernel_rfl) (fun x => match x with | 0 => mkSt [(0, .str s), (1, .int .i64 p), (2, .int .i64 (N : Int)), (6, .ptr 0 0 0), (8, .ptr 1 0 0), (9, .int .i64 0)] [some (⟨0, 1, 1, [.int .i64 0, .nils, .nils]⟩), some (⟨0, 1, 1, [.int .i64 p, .nils, .nils]⟩)] (resM Try.f37) | k + 1 => mkSt [(0, .str s), (1, .int .i64 p), (2, .int .i64 (N : Int)), (6, .ptr 0 0 0), (8, .ptr 1 0 0), (9, .int .i64 ((k : Int) + 1))] [some (⟨0, 1, 1, [.int .i64 0, .nils, .nils]⟩), some (⟨0, 1, 1, [.int .i64 p, .sl 2 0 0 (k + 1), .sl 3 0 0 (k + 1)]⟩), some (⟨0, 2, 1, (tab (k + 1) (nmA p m)).map (V.int .i64)⟩), some (⟨0, 2, 1, (tab (k + 1) (nmB p m)).map (V.int .i64)⟩)] (resM Try.f37)) N (fun k => ∀ j, j < k → ¬ naU m j % p = 0 ∧ ¬ naL m j % p = 0) ?_ ?_ 0 _ (by omega) (by omega) rfl ?_
        · intro k hk hP next
          have hal := hal k (by omega)
          have hbe := hbe k (by omega)
          have hs := nks k (by omega)
          have tu : (naU m k).tmod p = naU m k % p := Int.tmod_eq_emod_of_nonneg (by omega)
          have tl : (naL m k).tmod p = naL m k % p := Int.tmod_eq_emod_of_nonneg (by omega)
          have ta : (naA m k).tmod p = nmA p m k := by unfold nmA; exact Int.tmod_eq_emod_of_nonneg (by omega)
          have r1 := mod_small hp (naU m k)
          have r2 := mod_small hp (naL m k)
          have ri := invP_range hp (naL m k % p)
          have pm := mul_small hp r1 ri
          have h5 := up (run_l01Inverse p (naL m k % p) hp)
          have w5 : IntKind.i64.wrap (naU m k % p * invP p (naL m k % p)) = naU m k % p * invP p (naL m k % p) := IntWalk.i64_in _ (by omega)
          have tb : (naU m k % p * invP p (naL m k % p)).tmod p = nmB p m k := by unfold nmB divP; exact Int.tmod_eq_emod_of_nonneg pm.1
          have tA : tab (k + 1) (nmA p m) = tab k (nmA p m) ++ [nmA p m k] := tab_succ _ _
          have tB : tab (k + 1) (nmB p m) = tab k (nmB p m) ++ [nmB p m k] := tab_succ _ _
          have lA := tab_len k (nmA p m)
          have lB := tab_len k (nmB p m)
          have w4 : IntKind.i64.wrap ((k : Int) + 1) = (k : Int) + 1 := IntWalk.i64_in _ (by omega)
          have ck : (k : Int) < (N : Int) := by omega
          have c3 : (k + 1) * 8 ≤ 140737488355328 := by omega
          have hbad : (¬ (¬ naU m k % p = 0 ∧ ¬ naL m k % p = 0)) → namedJ s p N = (0, [], [], 5) := fun hz => by
            have : nmOk p m N = false := by
              unfold nmOk; rw [List.all_eq_false]
              exact ⟨k, by simpa using hk, by simpa [Decidable.not_and_iff_or_not] using hz⟩
            rw [hok, this]; rfl
          generalize hTA : tab k (nmA p m) = TA at *
          generalize hTB : tab k (nmB p m) = TB at *
          generalize nmA p m k = xA at *
          generalize nmB p m k = xB at *
          generalize naA m k = a0 at *
          generalize hu0 : naU m k = u0 at *
          generalize hl0 : naL m k = l0 at *
          rcases k with _ | k
          · dsimp only at next ⊢
            simp only [Nat.zero_add, Int.zero_add, Int.natCast_add, Int.cast_ofNat_Int, Nat.add_assoc, Nat.reduceAdd] at *
            obtain rfl : TA = [] := hTA.symm
            obtain rfl : TB = [] := hTB.symm
            try simp only [hTA, hTB]
            by_cases z1 : u0 % p = 0
            · have hps := hbad (by simp [z1])
              simp [go_sem, -map_replicate, -map_set, -map_append, -map_reverse, -map_take, -map_drop, -map_tail, -any_map, -all_map, -mapM_map, -map_map, bitvec_to_nat, ck, hk, hbe, tu, tl, z1, hpn, fillV]
              repeat refine ⟨by kernel_rfl, by kernel_rfl, ?_⟩
              simp [mvcgen_simp, -map_replicate, -map_set, -map_append, -map_reverse, -map_take, -map_drop, -map_tail, -any_map, -all_map, -mapM_map, -map_map, Try.f37, hps, szL, ldL, setCs0, setCs1, setCs2, setCsA2, setCsA3, ldM, fM0, fM1, szM, zM, plM0, plM1, agM, paM, ldJ, fJ0, fJ1, fJ2, szJ, zJ, plJ0, plJ1, plJ2, agJ, paJ, ctJ, loadD, viewN]
            by_cases z2 : l0 % p = 0
            · have hps := hbad (by simp [z2])
              simp [go_sem, -map_replicate, -map_set, -map_append, -map_reverse, -map_take, -map_drop, -map_tail, -any_map, -all_map, -mapM_map, -map_map, bitvec_to_nat, ck, hk, hbe, tu, tl, z1, z2, hpn, fillV]
              repeat refine ⟨by kernel_rfl, by kernel_rfl, ?_⟩
              simp [mvcgen_simp, -map_replicate, -map_set, -map_append, -map_reverse, -map_take, -map_drop, -map_tail, -any_map, -all_map, -mapM_map, -map_map, Try.f37, hps, szL, ldL, setCs0, setCs1, setCs2, setCsA2, setCsA3, ldM, fM0, fM1, szM, zM, plM0, plM1, agM, paM, ldJ, fJ0, fJ1, fJ2, szJ, zJ, plJ0, plJ1, plJ2, agJ, paJ, ctJ, loadD, viewN]
            · simp [go_sem, -map_replicate, -map_set, -map_append, -map_reverse, -map_take, -map_drop, -map_tail, -any_map, -all_map, -mapM_map, -map_map, bitvec_to_nat, ck, hk, hbe, hal, tu, tl, ta, tb, h5, w4, w5, lA, lB, c3, z1, z2, hpn, fillV]
              repeat refine ⟨by kernel_rfl, by kernel_rfl, ?_⟩
              refine next _ (fun j hj => ?_) rfl ?_
              · by_cases hj' : j = 0
                · subst hj'; rw [hu0, hl0]; exact ⟨z1, z2⟩
                · exact hP j (by omega)
              · (refine canon_mk ?_; simp [method_specs_simp, ordIds_app, ordRen_app, ordIds_app2, ordRen_app2, -map_replicate, -map_set, -map_append, -map_reverse, -map_take, -map_drop, -map_tail, -map_map, tA, tB])
          · dsimp only at next ⊢
            simp only [Nat.zero_add, Int.zero_add, Int.natCast_add, Int.cast_ofNat_Int, Nat.add_assoc, Nat.reduceAdd] at *
            skip
            skip
            try simp only [hTA, hTB]
            by_cases z1 : u0 % p = 0
            · have hps := hbad (by simp [z1])
              simp [go_sem, -map_replicate, -map_set, -map_append, -map_reverse, -map_take, -map_drop, -map_tail, -any_map, -all_map, -mapM_map, -map_map, bitvec_to_nat, ck, hk, hbe, tu, tl, z1, hpn, fillV]
              repeat refine ⟨by kernel_rfl, by kernel_rfl, ?_⟩
              simp [mvcgen_simp, -map_replicate, -map_set, -map_append, -map_reverse, -map_take, -map_drop, -map_tail, -any_map, -all_map, -mapM_map, -map_map, Try.f37, hps, szL, ldL, setCs0, setCs1, setCs2, setCsA2, setCsA3, ldM, fM0, fM1, szM, zM, plM0, plM1, agM, paM, ldJ, fJ0, fJ1, fJ2, szJ, zJ, plJ0, plJ1, plJ2, agJ, paJ, ctJ, loadD, viewN]
            by_cases z2 : l0 % p = 0
            · have hps := hbad (by simp [z2])
              simp [go_sem, -map_replicate, -map_set, -map_append, -map_reverse, -map_take, -map_drop, -map_tail, -any_map, -all_map, -mapM_map, -map_map, bitvec_to_nat, ck, hk, hbe, tu, tl, z1, z2, hpn, fillV]
              repeat refine ⟨by kernel_rfl, by kernel_rfl, ?_⟩
              simp [mvcgen_simp, -map_replicate, -map_set, -map_append, -map_reverse, -map_take, -map_drop, -map_tail, -any_map, -all_map, -mapM_map, -map_map, Try.f37, hps, szL, ldL, setCs0, setCs1, setCs2, setCsA2, setCsA3, ldM, fM0, fM1, szM, zM, plM0, plM1, agM, paM, ldJ, fJ0, fJ1, fJ2, szJ, zJ, plJ0, plJ1, plJ2, agJ, paJ, ctJ, loadD, viewN]
            · simp [go_sem, -map_replicate, -map_set, -map_append, -map_reverse, -map_take, -map_drop, -map_tail, -any_map, -all_map, -mapM_map, -map_map, bitvec_to_nat, ck, hk, hbe, hal, tu, tl, ta, tb, h5, w4, w5, lA, lB, c3, z1, z2, hpn, fillV]
              repeat refine ⟨by kernel_rfl, by kernel_rfl, ?_⟩
              refine next _ (fun j hj => ?_) rfl ?_
              · by_cases hj' : j = (k + 1)
                · subst hj'; rw [hu0, hl0]; exact ⟨z1, z2⟩
                · exact hP j (by omega)
              · (refine canon_mk ?_; simp [method_specs_simp, ordIds_app, ordRen_app, ordIds_app2, ordRen_app2, -map_replicate, -map_set, -map_append, -map_reverse, -map_take, -map_drop, -map_tail, -map_map, tA, tB])
        · intro hP
          have hall : nmOk p m N = true := by
            unfold nmOk; rw [List.all_eq_true]
            intro k hk
            have := hP k (by simpa using hk)
            simp [this]
          have hps : namedJ s p N = (p, tab N (nmA p m), tab N (nmB p m), 0) := by rw [hok, hall]; rfl
          have lA := tab_len N (nmA p m)
          have lB := tab_len N (nmB p m)
          rcases N with _ | k
          · omega
          · dsimp only
            simp only [Int.natCast_add, Int.cast_ofNat_Int] at hps ⊢
            simp [go_sem, -map_replicate, -map_set, -map_append, -map_reverse, -map_take, -map_drop, -map_tail, -any_map, -all_map, -mapM_map, -map_map, bitvec_to_nat]
            simp [mvcgen_simp, -map_replicate, -map_set, -map_append, -map_reverse, -map_take, -map_drop, -map_tail, -any_map, -all_map, -mapM_map, -map_map, Try.f37, hps, lA, lB, szL, ldL, setCs0, setCs1, setCs2, setCsA2, setCsA3, ldM, fM0, fM1, szM, zM, plM0, plM1, agM, paM, ldJ, fJ0, fJ1, fJ2, szJ, zJ, plJ0, plJ1, plJ2, agJ, paJ, ctJ, loadD, viewN]
        · (refine canon_mk ?_; simp [method_specs_simp, ordIds_app, ordRen_app, ordIds_app2, ordRen_app2, -map_replicate, -map_set, -map_append, -map_reverse, -map_take, -map_drop, -map_tail, -map_map])
theorem run_implNamedJacobi (s : ByteArray) (p n : Int) (hs : s.size ≤ 1048576) :
    runv E1 36 [.str s, .int .i64 p, .int .i64 n] = some ⟨true, .tup [(V.agg [V.int .i64 ((namedJ s p n).1), (V.uniq 1 (List.length ((namedJ s p n).2.1)) (List.map (V.int .i64) ((namedJ s p n).2.1))), (V.uniq 1 (List.length ((namedJ s p n).2.2.1)) (List.map (V.int .i64) ((namedJ s p n).2.2.1)))]), .int .i64 (namedJ s p n).2.2.2], [.undef, .undef, .undef]⟩ := by
  have cdk : codeOk Try.f36.ntmps (Try.f36.body.getD .skip) = true := by kernel_rfl
  refine run_of_WLr (fn := Try.f36) rfl Try.func36 rfl ⟨by simp [Try.ntmps36], by simp [wideA, ints], cdk, by simp [Try.f36]⟩ rfl (by simp [rebOk, noId, adoptT, adoptA, adoptL, adoptC, depth]) ?_
  have h1 := up (run_IsPrime p)
  have h2 := up (run_within n 1 12)
  cases e1 : primeB p with
  | false =>
    rw [e1] at h1
    simp [go_sem, -map_replicate, -map_set, -map_append, -map_reverse, -map_take, -map_drop, -map_tail, -any_map, -all_map, -mapM_map, -map_map, bitvec_to_nat, h1, fillV]
    simp [mvcgen_simp, -map_replicate, -map_set, -map_append, -map_reverse, -map_take, -map_drop, -map_tail, -any_map, -all_map, -mapM_map, -map_map, Try.f36, namedJ, e1, szL, ldL, setCs0, setCs1, setCs2, setCsA2, setCsA3, ldM, fM0, fM1, szM, zM, plM0, plM1, agM, paM, ldJ, fJ0, fJ1, fJ2, szJ, zJ, plJ0, plJ1, plJ2, agJ, paJ, ctJ, loadD, viewN]
  | true =>
    rw [e1] at h1
    cases e2 : (decide (1 ≤ n) && decide (n ≤ 12)) with
    | false =>
      rw [e2] at h2
      have hps : namedJ s p n = (0, [], [], 2) := by simp only [namedJ, e1, e2]; rfl
      simp [go_sem, -map_replicate, -map_set, -map_append, -map_reverse, -map_take, -map_drop, -map_tail, -any_map, -all_map, -mapM_map, -map_map, bitvec_to_nat, h1, h2, fillV]
      simp [mvcgen_simp, -map_replicate, -map_set, -map_append, -map_reverse, -map_take, -map_drop, -map_tail, -any_map, -all_map, -mapM_map, -map_map, Try.f36, hps, szL, ldL, setCs0, setCs1, setCs2, setCsA2, setCsA3, ldM, fM0, fM1, szM, zM, plM0, plM1, agM, paM, ldJ, fJ0, fJ1, fJ2, szJ, zJ, plJ0, plJ1, plJ2, agJ, paJ, ctJ, loadD, viewN]
    | true =>
      rw [e2] at h2
      have hp := primeB_range e1
      have hn : 1 ≤ n ∧ n ≤ 12 := by simpa using e2
      obtain ⟨N, rfl⟩ : ∃ N : Nat, n = N := ⟨n.toNat, by omega⟩
      have hok0 : nk s = 0 → namedJ s p N = (0, [], [], 4) := fun e3 => by simp only [namedJ, e1, e2, e3]; rfl
      have hok : ¬ nk s = 0 → namedJ s p N = if nmOk p (nk s) N then (p, tab N (nmA p (nk s)), tab N (nmB p (nk s)), 0) else (0, [], [], 5) := fun e3 => by simp only [namedJ, e1, e2, e3, Int.toNat_natCast]; rfl
      simp [go_sem, -map_replicate, -map_set, -map_append, -map_reverse, -map_take, -map_drop, -map_tail, -any_map, -all_map, -mapM_map, -map_map, bitvec_to_nat, h1, h2, fillV]
      rw [WL_loop]
      have nks := na_small (nk s)
      have hal := run_namedAlpha s
      have hbe := run_namedBeta s
      have hpn : ¬ p = 0 := by omega
      generalize nk s = m at *
      refine WL_forP (keep := [0, 6, 8, 9, 26, 27]) (rs := resM Try.f36) rfl (by kernel_rfl) (fun x => match x with | 0 => mkSt [(0, .str s), (6, .ptr 0 0 0), (8, .int .i64 p), (9, .ptr 1 0 0), (26, .int .i64 (N : Int)), (27, .int .i64 0)] [some (⟨0, 1, 1, [.int .i64 0, .nils, .nils]⟩), some (⟨0, 1, 1, [.int .i64 p, .nils, .nils]⟩)] (resM Try.f36) | k + 1 => mkSt [(0, .str s), (6, .ptr 0 0 0), (8, .int .i64 p), (9, .ptr 1 0 0), (26, .int .i64 (N : Int)), (27, .int .i64 ((k : Int) + 1))] [some (⟨0, 1, 1, [.int .i64 0, .nils, .nils]⟩), some (⟨0, 1, 1, [.int .i64 p, .sl 2 0 0 (k + 1), .sl 3 0 0 (k + 1)]⟩), some (⟨0, 2, 1, (tab (k + 1) (nmA p m)).map (V.int .i64)⟩), some (⟨0, 2, 1, (tab (k + 1) (nmB p m)).map (V.int .i64)⟩)] (resM Try.f36)) N (fun k => ∀ j, j < k → ¬ m = 0 ∧ ¬ naU m j % p = 0 ∧ ¬ naL m j % p = 0) ?_ ?_ 0 _ (by omega) (by omega) rfl ?_
      · intro k hk hP next
        have hal := hal k (by omega)
        have hbe := hbe k (by omega)
        have hs := nks k (by omega)
        have tu := up (run_mod p (naU m k) hp)
        have tl := up (run_mod p (naL m k) hp)
        have ta := up (run_mod p (naA m k) hp)
        rw [show naA m k % p = nmA p m k from rfl] at ta
        have h5 := up (run_div p (naU m k % p) (naL m k % p) hp (mod_small hp _) (mod_small hp _))
        rw [show divP p (naU m k % p) (naL m k % p) = nmB p m k from rfl] at h5
        have tA : tab (k + 1) (nmA p m) = tab k (nmA p m) ++ [nmA p m k] := tab_succ _ _
        have tB : tab (k + 1) (nmB p m) = tab k (nmB p m) ++ [nmB p m k] := tab_succ _ _
        have lA := tab_len k (nmA p m)
        have lB := tab_len k (nmB p m)
        have w4 : IntKind.i64.wrap ((k : Int) + 1) = (k : Int) + 1 := IntWalk.i64_in _ (by omega)
        have ck : (k : Int) < (N : Int) := by omega
        have c3 : (k + 1) * 8 ≤ 140737488355328 := by omega
        by_cases hm0 : m = 0
        · rcases k with _ | k
          · have hps := hok0 hm0
            rw [if_pos hm0] at hbe
            dsimp only
            simp only [Int.cast_ofNat_Int] at ck hbe
            simp [go_sem, -map_replicate, -map_set, -map_append, -map_reverse, -map_take, -map_drop, -map_tail, -any_map, -all_map, -mapM_map, -map_map, bitvec_to_nat, ck, hk, hbe, fillV]
            repeat refine ⟨by kernel_rfl, by kernel_rfl, ?_⟩
            simp [mvcgen_simp, -map_replicate, -map_set, -map_append, -map_reverse, -map_take, -map_drop, -map_tail, -any_map, -all_map, -mapM_map, -map_map, Try.f36, hps, szL, ldL, setCs0, setCs1, setCs2, setCsA2, setCsA3, ldM, fM0, fM1, szM, zM, plM0, plM1, agM, paM, ldJ, fJ0, fJ1, fJ2, szJ, zJ, plJ0, plJ1, plJ2, agJ, paJ, ctJ, loadD, viewN]
          · exact absurd hm0 (hP k (by omega)).1
        rw [if_neg hm0] at hbe
        have hbad : (¬ (¬ naU m k % p = 0 ∧ ¬ naL m k % p = 0)) → namedJ s p N = (0, [], [], 5) := fun hz => by
          have : nmOk p m N = false := by
            unfold nmOk; rw [List.all_eq_false]
            exact ⟨k, by simpa using hk, by simpa [Decidable.not_and_iff_or_not] using hz⟩
          rw [hok hm0, this]; rfl
        generalize hTA : tab k (nmA p m) = TA at *
        generalize hTB : tab k (nmB p m) = TB at *
        generalize nmA p m k = xA at *
        generalize nmB p m k = xB at *
        generalize naA m k = a0 at *
        generalize hu0 : naU m k = u0 at *
        generalize hl0 : naL m k = l0 at *
        rcases k with _ | k
        · dsimp only at next ⊢
          simp only [Nat.zero_add, Int.zero_add, Int.natCast_add, Int.cast_ofNat_Int, Nat.add_assoc, Nat.reduceAdd] at *
          obtain rfl : TA = [] := hTA.symm
          obtain rfl : TB = [] := hTB.symm
          try simp only [hTA, hTB]
          by_cases z1 : u0 % p = 0
          · have hps := hbad (by simp [z1])
            simp [go_sem, -map_replicate, -map_set, -map_append, -map_reverse, -map_take, -map_drop, -map_tail, -any_map, -all_map, -mapM_map, -map_map, bitvec_to_nat, ck, hk, hbe, tu, tl, z1, hpn, fillV]
            repeat refine ⟨by kernel_rfl, by kernel_rfl, ?_⟩
            simp [mvcgen_simp, -map_replicate, -map_set, -map_append, -map_reverse, -map_take, -map_drop, -map_tail, -any_map, -all_map, -mapM_map, -map_map, Try.f36, hps, szL, ldL, setCs0, setCs1, setCs2, setCsA2, setCsA3, ldM, fM0, fM1, szM, zM, plM0, plM1, agM, paM, ldJ, fJ0, fJ1, fJ2, szJ, zJ, plJ0, plJ1, plJ2, agJ, paJ, ctJ, loadD, viewN]
          by_cases z2 : l0 % p = 0
          · have hps := hbad (by simp [z2])
            simp [go_sem, -map_replicate, -map_set, -map_append, -map_reverse, -map_take, -map_drop, -map_tail, -any_map, -all_map, -mapM_map, -map_map, bitvec_to_nat, ck, hk, hbe, tu, tl, z1, z2, hpn, fillV]
            repeat refine ⟨by kernel_rfl, by kernel_rfl, ?_⟩
            simp [mvcgen_simp, -map_replicate, -map_set, -map_append, -map_reverse, -map_take, -map_drop, -map_tail, -any_map, -all_map, -mapM_map, -map_map, Try.f36, hps, szL, ldL, setCs0, setCs1, setCs2, setCsA2, setCsA3, ldM, fM0, fM1, szM, zM, plM0, plM1, agM, paM, ldJ, fJ0, fJ1, fJ2, szJ, zJ, plJ0, plJ1, plJ2, agJ, paJ, ctJ, loadD, viewN]
          · simp [go_sem, -map_replicate, -map_set, -map_append, -map_reverse, -map_take, -map_drop, -map_tail, -any_map, -all_map, -mapM_map, -map_map, bitvec_to_nat, ck, hk, hbe, hal, tu, tl, ta, h5, w4, lA, lB, c3, z1, z2, hpn, fillV]
            repeat refine ⟨by kernel_rfl, by kernel_rfl, ?_⟩
            refine next _ (fun j hj => ?_) rfl ?_
            · by_cases hj' : j = 0
              · subst hj'; rw [hu0, hl0]; exact ⟨hm0, z1, z2⟩
              · exact hP j (by omega)
            · (refine canon_mk ?_; simp [method_specs_simp, ordIds_app, ordRen_app, ordIds_app2, ordRen_app2, -map_replicate, -map_set, -map_append, -map_reverse, -map_take, -map_drop, -map_tail, -map_map, tA, tB])
        · dsimp only at next ⊢
          simp only [Nat.zero_add, Int.zero_add, Int.natCast_add, Int.cast_ofNat_Int, Nat.add_assoc, Nat.reduceAdd] at *
          skip
          skip
          try simp only [hTA, hTB]
          by_cases z1 : u0 % p = 0
          · have hps := hbad (by simp [z1])
            simp [go_sem, -map_replicate, -map_set, -map_append, -map_reverse, -map_take, -map_drop, -map_tail, -any_map, -all_map, -mapM_map, -map_map, bitvec_to_nat, ck, hk, hbe, tu, tl, z1, hpn, fillV]
            repeat refine ⟨by kernel_rfl, by kernel_rfl, ?_⟩
            simp [mvcgen_simp, -map_replicate, -map_set, -map_append, -map_reverse, -map_take, -map_drop, -map_tail, -any_map, -all_map, -mapM_map, -map_map, Try.f36, hps, szL, ldL, setCs0, setCs1, setCs2, setCsA2, setCsA3, ldM, fM0, fM1, szM, zM, plM0, plM1, agM, paM, ldJ, fJ0, fJ1, fJ2, szJ, zJ, plJ0, plJ1, plJ2, agJ, paJ, ctJ, loadD, viewN]
          by_cases z2 : l0 % p = 0
          · have hps := hbad (by simp [z2])
            simp [go_sem, -map_replicate, -map_set, -map_append, -map_reverse, -map_take, -map_drop, -map_tail, -any_map, -all_map, -mapM_map, -map_map, bitvec_to_nat, ck, hk, hbe, tu, tl, z1, z2, hpn, fillV]
            repeat refine ⟨by kernel_rfl, by kernel_rfl, ?_⟩
            simp [mvcgen_simp, -map_replicate, -map_set, -map_append, -map_reverse, -map_take, -map_drop, -map_tail, -any_map, -all_map, -mapM_map, -map_map, Try.f36, hps, szL, ldL, setCs0, setCs1, setCs2, setCsA2, setCsA3, ldM, fM0, fM1, szM, zM, plM0, plM1, agM, paM, ldJ, fJ0, fJ1, fJ2, szJ, zJ, plJ0, plJ1, plJ2, agJ, paJ, ctJ, loadD, viewN]
          · simp [go_sem, -map_replicate, -map_set, -map_append, -map_reverse, -map_take, -map_drop, -map_tail, -any_map, -all_map, -mapM_map, -map_map, bitvec_to_nat, ck, hk, hbe, hal, tu, tl, ta, h5, w4, lA, lB, c3, z1, z2, hpn, fillV]
            repeat refine ⟨by kernel_rfl, by kernel_rfl, ?_⟩
            refine next _ (fun j hj => ?_) rfl ?_
            · by_cases hj' : j = (k + 1)
              · subst hj'; rw [hu0, hl0]; exact ⟨hm0, z1, z2⟩
              · exact hP j (by omega)
            · (refine canon_mk ?_; simp [method_specs_simp, ordIds_app, ordRen_app, ordIds_app2, ordRen_app2, -map_replicate, -map_set, -map_append, -map_reverse, -map_take, -map_drop, -map_tail, -map_map, tA, tB])
      · intro hP
        have hall : nmOk p m N = true := by
          unfold nmOk; rw [List.all_eq_true]
          intro k hk
          have := hP k (by simpa using hk)
          simp [this]
        have hps : namedJ s p N = (p, tab N (nmA p m), tab N (nmB p m), 0) := by rw [hok (hP 0 (by omega)).1, hall]; rfl
        have lA := tab_len N (nmA p m)
        have lB := tab_len N (nmB p m)
        rcases N with _ | k
        · omega
        · dsimp only
          simp only [Int.natCast_add, Int.cast_ofNat_Int] at hps ⊢
          simp [go_sem, -map_replicate, -map_set, -map_append, -map_reverse, -map_take, -map_drop, -map_tail, -any_map, -all_map, -mapM_map, -map_map, bitvec_to_nat]
          simp [mvcgen_simp, -map_replicate, -map_set, -map_append, -map_reverse, -map_take, -map_drop, -map_tail, -any_map, -all_map, -mapM_map, -map_map, Try.f36, hps, lA, lB, szL, ldL, setCs0, setCs1, setCs2, setCsA2, setCsA3, ldM, fM0, fM1, szM, zM, plM0, plM1, agM, paM, ldJ, fJ0, fJ1, fJ2, szJ, zJ, plJ0, plJ1, plJ2, agJ, paJ, ctJ, loadD, viewN]
      · (refine canon_mk ?_; simp [method_specs_simp, ordIds_app, ordRen_app, ordIds_app2, ordRen_app2, -map_replicate, -map_set, -map_append, -map_reverse, -map_take, -map_drop, -map_tail, -map_map])


end Go.Proofs.Ytacfkfdnncgjcaa.Ev
