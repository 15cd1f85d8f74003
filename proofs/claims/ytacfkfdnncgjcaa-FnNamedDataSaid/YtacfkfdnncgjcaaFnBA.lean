/- What the texts that number their objects anew have in common. Conditions: none. -/
import Derived.Test.YtacfkfdnncgjcaaFnAB
import Derived.Test.YtacfkfdnncgjcaaFnV
import Derived.Test.YtacfkfdnncgjcaaFnY
set_option linter.unusedSimpArgs false
set_option linter.unusedVariables false
namespace Go.Proofs.Ytacfkfdnncgjcaa.Ev
open Go Go.Proofs
set_option maxRecDepth 4000
set_option maxHeartbeats 4000000

theorem WL_forP {E : Env} {s : Bool} {Q : St → Prop} {k : List Item} {b : Code} {rs : Nat} {keep : List Nat} (hr : E.reb = true) (hk : maskL (livK rs (.inLoop b :: k)).1 = keep) (T : Nat → St) (n : Nat) (P : Nat → Prop)
    (step : ∀ i, i < n → P i → (∀ st', P (i + 1) → st'.rs = rs → canon keep st' = T (i + 1) → WL E s (.inLoop b :: k) Q st') → WL E s (.code b :: .inLoop b :: k) Q (T i))
    (last : P n → WL E s (.code b :: .inLoop b :: k) Q (T n)) : ∀ i st, i ≤ n → P i → st.rs = rs → canon keep st = T i → WL E s (.inLoop b :: k) Q st := by
  suffices h : ∀ i st, (i ≤ n ∧ P i) → st.rs = rs → canon keep st = T i → WL E s (.inLoop b :: k) Q st from fun i st h1 h2 => h i st ⟨h1, h2⟩
  refine WL_forX hr hk T (fun i => i ≤ n ∧ P i) (fun i => n - i) fun i ⟨hi, hP⟩ next => ?_
  by_cases h : i = n
  · subst h; exact last hP
  · exact step i (by omega) hP fun st' h0 h1 h2 => next (i + 1) st' ⟨by omega, h0⟩ (by omega) h1 h2
section
variable {ord : List Nat} {H : Nat → Option Ob} {d : Nat} {k : IntKind} (l : List Int) (x y : Int)
theorem ordIds_app : (l.map (V.int k) ++ [V.int k x]).flatMap (idsF d) = [] := by
  have := ordIds_int (d := d) (k := k) (l ++ [x])
  simpa using this
theorem ordRen_app : (l.map (V.int k) ++ [V.int k x]).map (renC ord H) = (l ++ [x]).map (V.int k) := by
  have := ordRen_int (ord := ord) (H := H) (k := k) (l ++ [x])
  rw [← this]; congr 1; simp
theorem ordIds_app2 : (l.map (V.int k) ++ [V.int k x, V.int k y]).flatMap (idsF d) = [] := by
  have := ordIds_int (d := d) (k := k) (l ++ [x, y])
  simpa using this
theorem ordRen_app2 : (l.map (V.int k) ++ [V.int k x, V.int k y]).map (renC ord H) = (l ++ [x, y]).map (V.int k) := by
  have := ordRen_int (ord := ord) (H := H) (k := k) (l ++ [x, y])
  rw [← this]; congr 1; simp
end
theorem wz0 : IntKind.i64.wrap 0 = 0 := by decide +kernel
theorem wz1 : IntKind.i64.wrap 1 = 1 := by decide +kernel
theorem map_snoc {k : IntKind} (l : List Int) (x : Int) : l.map (V.int k) ++ [V.int k x] = (l ++ [x]).map (V.int k) := by simp
theorem hasB_all {p : Int} {l : List Int} (h : l.all (hasB p) = true) {k : Nat} (hk : k < l.length) : 0 ≤ rdI l k ∧ rdI l k < p := by
  have := List.all_eq_true.1 h _ (List.getElem_mem hk)
  rw [rdI_get hk] at this
  exact hasB_range this
theorem zerosV2 : zerosV 2 [V.int .i64 0] = [.int .i64 0, .int .i64 0] := rfl
end Go.Proofs.Ytacfkfdnncgjcaa.Ev
