/- StepsOfJacobi: the data one after another, and how they lie in a list. Conditions: none. -/
import Derived.Test.YtabnganndcmcnaaFnCE
import Derived.Test.YtabnganndcmcnaaFnBE
set_option linter.unusedSimpArgs false
set_option linter.unusedVariables false
namespace Go.Proofs.Ytabnganndcmcnaa.Ev
open Go Go.Proofs
set_option maxRecDepth 4000
set_option maxHeartbeats 4000000

/-- The data after k steps. -/
def itJ (p c : Int) (a b : List Int) : Nat → List Int × List Int
  | 0 => (a, b)
  | k + 1 => (tab ((itJ p c a b k).1.length - 1) (stA p c (itJ p c a b k).1 (itJ p c a b k).2), tab ((itJ p c a b k).1.length - 1) (stB p c (itJ p c a b k).1 (itJ p c a b k).2))
def okS (p c : Int) (a b : List Int) (k : Nat) : Bool := stOk p c (itJ p c a b k).1 (itJ p c a b k).2
theorem itJ_jacB {p c : Int} {a b : List Int} (h : jacB p a b = true) : ∀ k, (∀ j, j < k → okS p c a b j = true) → jacB p (itJ p c a b k).1 (itJ p c a b k).2 = true
  | 0, _ => h
  | k + 1, ho => step_jacB (itJ_jacB h k fun j hj => ho j (by omega)) (ho k (by omega))
/-- One data's three cells. -/
def cl3 (p : Int) (x : List Int × List Int) : List V := [.int .i64 p, UV x.1, UV x.2]
def tri (p : Int) (l : List (List Int × List Int)) : List V := l.flatMap (cl3 p)
theorem tri_len (p : Int) : ∀ l, (tri p l).length = 3 * l.length
  | [] => rfl
  | x :: l => by
    have := tri_len p l
    simp only [tri, List.flatMap_cons, List.length_append, List.length_cons] at this ⊢
    rw [this]; simp [cl3]; omega
theorem tri_snoc (p : Int) (l : List (List Int × List Int)) (x : List Int × List Int) : tri p (l ++ [x]) = tri p l ++ [.int .i64 p, UV x.1, UV x.2] := by
  simp [tri, List.flatMap_append, cl3]
theorem tri_mem {p : Int} {l : List (List Int × List Int)} {v : V} (h : v ∈ tri p l) : v = .int .i64 p ∨ ∃ f, v = UV f := by
  obtain ⟨x, _, hx⟩ := List.mem_flatMap.1 h
  simp only [cl3, List.mem_cons, List.not_mem_nil, or_false] at hx
  rcases hx with rfl | rfl | rfl
  · exact .inl rfl
  · exact .inr ⟨_, rfl⟩
  · exact .inr ⟨_, rfl⟩
section
variable {ord : List Nat} {H : Nat → Option Ob} {d : Nat} (p : Int) (l : List (List Int × List Int))
theorem ordIds_tri : (tri p l).flatMap (idsF d) = [] := by
  rw [List.flatMap_eq_nil_iff]; intro v hv
  rcases tri_mem hv with rfl | ⟨f, rfl⟩ <;> cases d <;> rfl
theorem ordRen_tri : (tri p l).map (renC ord H) = tri p l := by
  conv => rhs; rw [← List.map_id (tri p l)]
  refine List.map_congr_left fun v hv => ?_
  rcases tri_mem hv with rfl | ⟨f, rfl⟩ <;> rfl
theorem all_treeN_tri : (tri p l).all (treeN (d + 1)) = true := by
  rw [List.all_eq_true]; intro v hv
  rcases tri_mem hv with rfl | ⟨f, rfl⟩
  · rfl
  · exact treeN_UV f
theorem mapM_same {f : V → Option V} : ∀ l : List V, (∀ v, v ∈ l → f v = some v) → l.mapM f = some l
  | [], _ => rfl
  | v :: l, h => by rw [List.mapM_cons, h v (List.mem_cons_self ..), mapM_same l fun w hw => h w (List.mem_cons_of_mem _ hw)]; rfl
theorem mapM_expN_tri : (tri p l).mapM (expN H (d + 1)) = some (tri p l) := mapM_same _ fun v hv => by
  rcases tri_mem hv with rfl | ⟨f, rfl⟩
  · rfl
  · have := treeN_UV (d := d) f
    unfold UV at this ⊢
    simp only [expN, this, Bool.true_or, if_true]
theorem flatMap_eidN_tri : (tri p l).flatMap (eidN H (d + 1)) = [] := by
  rw [List.flatMap_eq_nil_iff]; intro v hv
  rcases tri_mem hv with rfl | ⟨f, rfl⟩ <;> rfl
theorem any_hasU_tri (x : List Int × List Int) : (tri p (x :: l)).any hasU = true := by
  simp [tri, cl3, hasU, UV]
end
end Go.Proofs.Ytabnganndcmcnaa.Ev
