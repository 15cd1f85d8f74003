/- Changes of moments. Conditions: none. -/
import Derived.Test.YtehaffohdpjccaaFnP
set_option linter.unusedSimpArgs false
set_option linter.unusedVariables false
namespace Go.Proofs.Ytehaffohdpjccaa.Ev
open Go Go.Proofs
set_option maxRecDepth 4000
set_option maxHeartbeats 4000000

/-- A value that is a list of its own that grows: nil, or an object with a number beyond lo. -/
def GV (kd : IntKind) (lo : Nat) (st : St) (v : V) (l : List Int) : Prop :=
  (l = [] ∧ v = .nils) ∨ ∃ id ver, v = .sl id ver 0 l.length ∧ st.H id = some ⟨ver, 2, 1, l.map (V.int kd)⟩ ∧ id < st.nx ∧ lo < id
theorem GV.own {kd : IntKind} {st : St} {v : V} {lo id ver : Nat} {l : List Int} (n : Nat) (h : v = .sl id ver 0 n) (hn : n = l.length) (hH : st.H id = some ⟨ver, 2, 1, l.map (V.int kd)⟩) (hx : id < st.nx) (hlo : lo < id) : GV kd lo st v l :=
  .inr ⟨id, ver, by rw [h, hn], hH, hx, hlo⟩

theorem seg_drop (l : List Int) (k n : Nat) (h : n = l.length - k) : ((l.map (V.int .i64)).drop k).take n = (l.drop k).map (V.int .i64) := by
  rw [← List.map_drop, take_map_full (by simp; omega)]
theorem seg_tail (l : List Int) : (l.map (V.int .i64)).tail.take (l.length - 1) = l.tail.map (V.int .i64) := by
  rw [← List.map_tail, take_map_full (by simp)]
theorem rdI_tail (l : List Int) (i : Nat) : rdI l.tail i = rdI l (i + 1) := by cases l <;> simp [rdI]
theorem seg_take (l : List Int) (n : Nat) : (l.map (V.int .i64)).take n = (l.take n).map (V.int .i64) := by rw [List.map_take]
theorem rdI_drop (l : List Int) (k i : Nat) : rdI (l.drop k) i = rdI l (k + i) := by simp [rdI]

/-! ### MultiplyMoments -/
def mulL (p : Int) (l : List Int) (c : Int) : List Int := tab (l.length - 1) fun k => (rdI l (k + 1) - c * rdI l k) % p
def mulM (p : Int) (l : List Int) (c : Int) : Int × List Int × Int :=
  if momB p l then (if hasB p c then (if l.length = 1 then (0, [], 5) else (p, mulL p l c, 0)) else (0, [], 2)) else (0, [], 1)
theorem mulM_len (p : Int) (l : List Int) (c : Int) (hl : l.length ≤ 1048576) : (mulM p l c).2.1.length ≤ 1048576 := by
  unfold mulM; (repeat' split) <;> simp [mulL, tab_len] <;> omega

/-- What the functional makes of the first numbers of a polynomial times a power. -/
def dotP (p : Int) (f l : List Int) (k : Nat) : Nat → Int
  | 0 => 0
  | i + 1 => (dotP p f l k i + rdI f i * rdI l (i + k)) % p
theorem dotP_range {p : Int} (hp : 2 ≤ p ∧ p ≤ 10007) (f l : List Int) (k : Nat) : ∀ i, 0 ≤ dotP p f l k i ∧ dotP p f l k i < p
  | 0 => by unfold dotP; omega
  | i + 1 => mod_small hp _
theorem all_rd {p : Int} {f : List Int} (h : f.all (hasB p) = true) {k : Nat} (hk : k < f.length) : 0 ≤ rdI f k ∧ rdI f k < p :=
  hasB_range (List.all_eq_true.1 h _ (rdI_get hk ▸ List.getElem_mem hk))

theorem mulDot (p c : Int) (l : List Int) (hp : 2 ≤ p ∧ p ≤ 10007) (k : Nat) : dotP p [(-c) % p, 1] l k 2 = (rdI l (k + 1) - c * rdI l k) % p := by
  show ((0 + rdI [(-c) % p, 1] 0 * rdI l (0 + k)) % p + rdI [(-c) % p, 1] 1 * rdI l (1 + k)) % p = _
  have e0 : rdI [(-c) % p, 1] 0 = (-c) % p := rfl
  have e1 : rdI [(-c) % p, 1] 1 = 1 := rfl
  rw [e0, e1, Int.zero_add, Nat.zero_add, Nat.add_comm 1 k, Int.one_mul, Int.emod_add_emod, Int.add_comm, Int.add_emod, Int.mul_emod, Int.emod_emod_of_dvd _ (Int.dvd_refl p), ← Int.mul_emod, ← Int.add_emod]
  congr 1
  rw [Int.neg_mul]; omega
end Go.Proofs.Ytehaffohdpjccaa.Ev
