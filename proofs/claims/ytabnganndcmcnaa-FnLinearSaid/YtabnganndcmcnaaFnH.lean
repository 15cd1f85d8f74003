/- The laws' helpers on lists of whole numbers. Conditions: none. -/
import Derived.Test.YtabnganndcmcnaaFnA
set_option linter.unusedSimpArgs false
set_option linter.unusedVariables false
namespace Go.Proofs.Ytabnganndcmcnaa.Ev
open Go Go.Proofs
set_option maxRecDepth 4000
set_option maxHeartbeats 4000000

theorem rdI_eq {l m : List Int} (h : l.length = m.length) (hk : ∀ j, j < l.length → rdI l j = rdI m j) : l = m := by
  apply List.ext_getElem h
  intro j h1 h2
  rw [rdI_get h1, rdI_get h2]
  exact hk j h1

/-! ### Lists by their elements -/
def tab (n : Nat) (g : Nat → Int) : List Int := (List.range n).map g
theorem tab_len (n : Nat) (g : Nat → Int) : (tab n g).length = n := by simp [tab]
theorem tab_rd {n p : Nat} {g : Nat → Int} (h : p < n) : rdI (tab n g) p = g p := by simp [rdI, tab, h]
theorem tab_ext {n : Nat} {g g' : Nat → Int} (h : ∀ p, p < n → g p = g' p) : tab n g = tab n g' := by
  unfold tab; apply List.map_congr_left; intro p hp; exact h p (by simpa using hp)
theorem tab_self (l : List Int) : tab l.length (rdI l) = l := by
  apply rdI_eq (tab_len _ _)
  intro j hj; rw [tab_len] at hj; exact tab_rd hj
theorem rdI_set {l : List Int} {i p : Nat} {x : Int} (h : p < l.length) : rdI (l.set i x) p = if i = p then x else rdI l p := by
  by_cases e : i = p
  · subst e; simp [rdI, h]
  · simp [rdI, e]
theorem eq_tab {l : List Int} {n : Nat} {g : Nat → Int} (hl : l.length = n) (h : ∀ p, p < n → rdI l p = g p) : l = tab n g := by
  apply rdI_eq (by rw [hl, tab_len])
  intro j hj; rw [hl] at hj; rw [h j hj, tab_rd hj]
theorem tab_set {n k : Nat} {g : Nat → Int} {x : Int} : (tab n g).set k x = tab n (fun p => if k = p then x else g p) := by
  apply eq_tab (by simp [tab_len])
  intro p hp; rw [rdI_set (by rw [tab_len]; exact hp), tab_rd hp]
theorem tab_succ (n : Nat) (g : Nat → Int) : tab (n + 1) g = tab n g ++ [g n] := by unfold tab; rw [List.range_succ]; simp
theorem tab_zero (g : Nat → Int) : tab 0 g = [] := rfl
theorem tab_replicate (n : Nat) (x : Int) : List.replicate n x = tab n (fun _ => x) := by
  apply eq_tab (by simp)
  intro p hp; simp [rdI, hp]
theorem tab_map (n : Nat) (g : Nat → Int) (f : Int → Int) : (tab n g).map f = tab n (fun p => f (g p)) := by simp [tab]

/-- A slot that holds a list of its own that grows: nil, or an object with a number beyond lo. -/
def Grow (kd : IntKind) (lo : Nat) (st : St) (t : Nat) (l : List Int) : Prop :=
  (l = [] ∧ st.fr t = .nils) ∨ ∃ id ver, st.fr t = .sl id ver 0 l.length ∧ st.H id = some ⟨ver, 2, 1, l.map (V.int kd)⟩ ∧ id < st.nx ∧ lo < id
theorem Grow.own {kd : IntKind} {st : St} {lo t id ver : Nat} {l : List Int} (n : Nat) (h : st.fr t = .sl id ver 0 n) (hn : n = l.length) (hH : st.H id = some ⟨ver, 2, 1, l.map (V.int kd)⟩) (hx : id < st.nx) (hlo : lo < id) : Grow kd lo st t l :=
  .inr ⟨id, ver, by rw [h, hn], hH, hx, hlo⟩
theorem Grow.nil {kd : IntKind} {lo : Nat} {st : St} {t : Nat} (h : st.fr t = .nils) : Grow kd lo st t [] := .inl ⟨rfl, h⟩

/-- What a marking leaves. -/
def marks (k : Int) (n : Nat) : List Int := (List.range n).map fun i : Nat => k + (i : Int)
theorem marks_len (k : Int) (n : Nat) : (marks k n).length = n := by simp [marks]
theorem marks_rd {k : Int} {n i : Nat} (h : i < n) : rdI (marks k n) i = k + i := by
  unfold rdI marks; simp [h]
theorem marks_succ (k : Int) (n : Nat) : marks k (n + 1) = marks k n ++ [k + n] := by
  unfold marks; rw [List.range_succ]; simp

end Go.Proofs.Ytabnganndcmcnaa.Ev
