/- Rows of lists of their own; all polynomials of data. Conditions: none. -/
import Derived.Test.YtiefdblogdomhaaFnBD
set_option linter.unusedSimpArgs false
set_option linter.unusedVariables false
namespace Go.Proofs.Ytiefdblogdomhaa.Ev
open Go Go.Proofs
set_option maxRecDepth 4000
set_option maxHeartbeats 4000000

/-! ### Rows of lists -/
def UV (f : List Int) : V := (V.uniq 1 (List.length (f)) (List.map (V.int .i64) (f)))
section
variable {ord : List Nat} {H : Nat → Option Ob} {d sz n : Nat} {cs : List V} (r : List (List Int))
theorem ordIds_UV : (r.map UV).flatMap (idsF d) = [] := flatMap_leaf (fun _ => by cases d <;> rfl) r
theorem ordRen_UV : (r.map UV).map (renC ord H) = r.map UV := by
  rw [List.map_map]; exact List.map_congr_left fun a _ => rfl
theorem ordIds_UVapp : (r.map UV ++ [V.uniq sz n cs]).flatMap (idsF d) = [] := by
  rw [List.flatMap_append, ordIds_UV]; cases d <;> rfl
theorem ordRen_UVapp : (r.map UV ++ [V.uniq sz n cs]).map (renC ord H) = r.map UV ++ [V.uniq sz n cs] := by
  rw [List.map_append, ordRen_UV]; rfl
theorem mapM_to {α : Type} {g h : α → V} {f : V → Option V} (hf : ∀ a, f (g a) = some (h a)) : ∀ l : List α, (l.map g).mapM f = some (l.map h)
  | [] => rfl
  | a :: l => by rw [List.map_cons, List.mapM_cons, hf, mapM_to hf l]; rfl
theorem purN_UV (f : List Int) : purN H (d + 1) (UV f) = some (LV f) := by
  simp only [UV, purN, mapM_purN_int, Option.map_some, LV]
theorem viewN_UV (f : List Int) : viewN (d + 1) (UV f) = some (LV f) := by
  simp only [UV, viewN, mapM_viewN_int, Option.map_some, LV]
theorem treeN_UV (f : List Int) : treeN (d + 1) (UV f) = true := by
  simp only [UV, treeN, all_treeN_int]
theorem mapM_purN_UV : (r.map UV).mapM (purN H (d + 1)) = some (r.map LV) := mapM_to (fun f => purN_UV f) r
theorem mapM_viewN_UV : (r.map UV).mapM (viewN (d + 1)) = some (r.map LV) := mapM_to (fun f => viewN_UV f) r
theorem mapM_expN_UV : (r.map UV).mapM (expN H (d + 1)) = some (r.map UV) := mapM_leaf (fun f => by
  have := treeN_UV (d := d) f
  unfold UV at this ⊢
  simp only [expN, this, Bool.true_or, if_true]) r
theorem flatMap_idsN_UV : (r.map UV).flatMap (idsN H (d + 1)) = [] := flatMap_leaf (fun f => by
  simp only [UV, idsN, flatMap_idsN_int]) r
theorem flatMap_eidN_UV : (r.map UV).flatMap (eidN H (d + 1)) = [] := flatMap_leaf (fun f => rfl) r
theorem all_treeN_UV : (r.map UV).all (treeN (d + 1)) = true := all_leaf (fun f => treeN_UV f) r
theorem any_hasU_UV : (r.map UV).any hasU = !r.isEmpty := by cases r <;> simp [UV, hasU]
end

def prow (p : Int) (a b : List Int) (n : Nat) : List (List Int) := (List.range n).map fun i => (pl p a b i).1
theorem prow_len (p : Int) (a b : List Int) (n : Nat) : (prow p a b n).length = n := by simp [prow]
theorem prow_get (p : Int) (a b : List Int) {n k : Nat} (h : k < (prow p a b n).length) : (prow p a b n)[k] = (pl p a b k).1 := by simp [prow]
theorem prow_succ (p : Int) (a b : List Int) (n : Nat) : (prow p a b (n + 1)).map UV = (prow p a b n).map UV ++ [V.uniq 1 (pl p a b n).1.length ((pl p a b n).1.map (V.int .i64))] := by
  unfold prow; rw [List.range_succ, List.map_append, List.map_append]; rfl
theorem prow_at (p : Int) (a b : List Int) {n k : Nat} (h : k < n) (g : List Int → V) : ((prow p a b n).map g)[k]? = some (g (pl p a b k).1) := by
  simp [prow, h]
theorem prow_take (p : Int) (a b : List Int) (n : Nat) (g : List Int → V) : ((prow p a b (n + 1)).map g).take n = (prow p a b n).map g := by
  unfold prow
  rw [List.range_succ, List.map_append, List.map_append, List.take_append_of_le_length (by simp), List.take_of_length_le (by simp)]


/-! ### Sums of numbers times polynomials -/
end Go.Proofs.Ytiefdblogdomhaa.Ev
