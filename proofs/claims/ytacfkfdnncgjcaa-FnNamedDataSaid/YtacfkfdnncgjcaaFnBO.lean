/- The laws' helpers on lists of lists. Conditions: none. -/
/- The marking of all rows. Conditions: none. -/
/- PathTriangle: both texts and the law. Conditions: none. -/
import Derived.Test.YtacfkfdnncgjcaaFnBG
set_option linter.unusedSimpArgs false
set_option linter.unusedVariables false
namespace Go.Proofs.Ytacfkfdnncgjcaa.Ev
open Go Go.Proofs
set_option maxRecDepth 4000
set_option maxHeartbeats 4000000

/-! ### A law that hands rows over to be written -/
def lawB (f : FuncId) : Bool := [].contains f
noncomputable def E3 : Env := { P := Try.prog, modes := modesOf, strict := fun _ => true, prim := fun f args => if lawB f then none else runv E1 f args }
theorem E3_P : E3.P = Try.prog := rfl
theorem E3_m (f : FuncId) : E3.modes f = modesOf f := rfl
theorem E3_s (f : FuncId) : E3.strict f = true := rfl
theorem up3 {f : FuncId} {args : List V} {r : Res} (h : runv E1 f args = some r) (ho : lawB f = false := by rfl) : runv E3 f args = some r :=
  runv_of_run ⟨1, by
    have e : E3.prim f args = some r := by
      show (if lawB f then none else runv E1 f args) = some r
      rw [if_neg (by rw [ho]; simp), h]
    unfold callF
    rw [e]⟩
theorem E3_prims (hm : Try.prog.follows .mixedOrders = true) : PrimsOk E3 := fun f vals r h => by
  have h' : (if lawB f then none else runv E1 f vals) = some r := h
  split at h'
  · cases h'
  · exact runv_sound (E := E1) hm (E1_prims hm) h'
theorem slR' : slT Try.prog 77 = some (27, 1, 24) := by kernel_rfl
theorem undR' : Try.prog.underlying 77 = some (.slice 27) := by kernel_rfl
theorem rdL_at {r : List (List Int)} {i : Nat} (h : i < r.length) (g : List Int → V) : (r.map g)[i]? = some (g (rdL r i)) := by
  simp [rdL, h]
/-- What a marking of all rows leaves: where the i-th begins. -/
def mkAt (k : Int) (r : List (List Int)) : Nat → Int
  | 0 => k
  | i + 1 => mkAt k r i + (rdL r i).length
def mrow (k : Int) (r : List (List Int)) (n : Nat) : List (List Int) := (List.range n).map fun i => marks (mkAt k r i) (rdL r i).length
theorem mrow_len (k : Int) (r : List (List Int)) (n : Nat) : (mrow k r n).length = n := by simp [mrow]
theorem mkAt_ge (k : Int) (r : List (List Int)) : ∀ i, k ≤ mkAt k r i
  | 0 => Int.le_refl _
  | i + 1 => by have := mkAt_ge k r i; rw [mkAt]; omega
theorem mkAt_le (k : Int) (r : List (List Int)) (M : Nat) (hM : ∀ f, f ∈ r → f.length ≤ M) : ∀ i, mkAt k r i ≤ k + M * i
  | 0 => by rw [mkAt]; omega
  | i + 1 => by
    have := mkAt_le k r M hM i
    have h : (rdL r i).length ≤ M := by
      unfold rdL
      by_cases hi : i < r.length
      · have := hM _ (List.getElem_mem hi); simpa [hi] using this
      · simp [hi]
    rw [mkAt]
    have e : (M : Int) * ((i + 1 : Nat) : Int) = M * i + M := by rw [Int.natCast_add, Int.mul_add]; omega
    rw [e]; omega
end Go.Proofs.Ytacfkfdnncgjcaa.Ev

set_option linter.unusedSimpArgs false
set_option linter.unusedVariables false
namespace Go.Proofs.Ytacfkfdnncgjcaa.Ev
open Go Go.Proofs
set_option maxRecDepth 4000
set_option maxHeartbeats 4000000

/-- The cells of all rows, of which some have been taken out. -/
def cRow (r : List (List Int)) (ids : Nat → Nat) (i : Nat) : List V := (List.range i).map (fun j => V.sl (ids j) 0 0 (rdL r j).length) ++ (r.drop i).map UV
theorem cRow_len (r : List (List Int)) (ids : Nat → Nat) {i : Nat} (h : i ≤ r.length) : (cRow r ids i).length = r.length := by simp [cRow]; omega
theorem cRow_at (r : List (List Int)) (ids : Nat → Nat) {i : Nat} (h : i < r.length) : (cRow r ids i)[i]? = some (UV (rdL r i)) := by
  simp [cRow, List.getElem?_append, rdL, h]
theorem cRow_set (r : List (List Int)) (ids : Nat → Nat) {i b : Nat} (h : i < r.length) : setCs (cRow r ids i) i [V.sl b 0 0 (rdL r i).length] = cRow r (upd ids i b) (i + 1) := by
  unfold setCs cRow
  rw [List.take_append_of_le_length (by simp), List.take_of_length_le (by simp), List.drop_append, List.drop_eq_nil_of_le (by simp), List.nil_append, List.range_succ, List.map_append]
  congr 1
  · congr 1
    · apply List.map_congr_left
      intro j hj
      have : j ≠ i := by have := List.mem_range.1 hj; omega
      rw [upd_ne _ _ _ _ this]
    · simp [upd]
  · rw [← List.map_drop, List.drop_drop]; simp
theorem nodupB_ids : ∀ (n : Nat) (ids : Nat → Nat), (∀ j, j < n → 0 < ids j) → (∀ j j', j < n → j' < n → j ≠ j' → ids j ≠ ids j') → nodupB (0 :: (List.range n).map ids) = true := fun n ids h0 h1 => by
  have key : ∀ l : List Nat, l.Nodup → nodupB l = true := by
    intro l
    induction l with
    | nil => intro _; rfl
    | cons x xs ih =>
      intro h
      rw [List.nodup_cons] at h
      simp only [nodupB, Bool.and_eq_true, Bool.not_eq_true', List.contains_eq_mem, decide_eq_false_iff_not]
      exact ⟨h.1, ih h.2⟩
  apply key
  rw [List.nodup_cons]
  refine ⟨fun h => ?_, ?_⟩
  · obtain ⟨j, hj, e⟩ := List.mem_map.1 h
    have := h0 j (List.mem_range.1 hj); omega
  · rw [List.nodup_iff_pairwise_ne, List.pairwise_map]
    have := List.nodup_range (n := n)
    rw [List.nodup_iff_pairwise_ne] at this
    refine this.imp_of_mem fun {a b} ha hb hne => h1 a b (List.mem_range.1 ha) (List.mem_range.1 hb) hne
theorem cRow_exp {H : Nat → Option Ob} (k : Int) (r : List (List Int)) (ids : Nat → Nat) (h : ∀ j, j < r.length → H (ids j) = some (row (marks (mkAt k r j) (rdL r j).length))) :
    (cRow r ids r.length).mapM (expN H 5) = some ((mrow k r r.length).map UV) ∧ (cRow r ids r.length).flatMap (eidN H 5) = (List.range r.length).map ids := by
  have e : cRow r ids r.length = (List.range r.length).map (fun j => V.sl (ids j) 0 0 (rdL r j).length) := by simp [cRow]
  rw [e]
  have key : ∀ l : List Nat, (∀ j, j ∈ l → j < r.length) → (l.map (fun j => V.sl (ids j) 0 0 (rdL r j).length)).mapM (expN H 5) = some ((l.map fun i => marks (mkAt k r i) (rdL r i).length).map UV) ∧ (l.map (fun j => V.sl (ids j) 0 0 (rdL r j).length)).flatMap (eidN H 5) = l.map ids := by
    intro l
    induction l with
    | nil => intro _; exact ⟨rfl, rfl⟩
    | cons j l ih =>
      intro hl
      obtain ⟨i1, i2⟩ := ih fun x hx => hl x (List.mem_cons_of_mem _ hx)
      have hj := h j (hl j (List.mem_cons_self ..))
      have ml := marks_len (mkAt k r j) (rdL r j).length
      have e1 : expN H 5 (V.sl (ids j) 0 0 (rdL r j).length) = some (UV (marks (mkAt k r j) (rdL r j).length)) := by
        have t : ((marks (mkAt k r j) (rdL r j).length).map (V.int .i64)).take ((rdL r j).length * 1) = (marks (mkAt k r j) (rdL r j).length).map (V.int .i64) := take_map_full (by rw [ml]; omega)
        simp only [expN, getO, hj, row, if_true, t, mapM_expN_int, Option.map_some, UV, ml]
        simp [ml]
      have e2 : eidN H 5 (V.sl (ids j) 0 0 (rdL r j).length) = [ids j] := by
        have t : ((marks (mkAt k r j) (rdL r j).length).map (V.int .i64)).take ((rdL r j).length * 1) = (marks (mkAt k r j) (rdL r j).length).map (V.int .i64) := take_map_full (by rw [ml]; omega)
        simp only [eidN, getO, hj, row, if_true, t, flatMap_eidN_int]
      refine ⟨?_, ?_⟩
      · rw [List.map_cons, List.mapM_cons, e1, i1]; rfl
      · rw [List.map_cons, List.flatMap_cons, e2, i2]; rfl
  exact key _ fun j hj => List.mem_range.1 hj
end Go.Proofs.Ytacfkfdnncgjcaa.Ev

set_option linter.unusedSimpArgs false
set_option linter.unusedVariables false
namespace Go.Proofs.Ytacfkfdnncgjcaa.Ev
open Go Go.Proofs
set_option maxRecDepth 4000
set_option maxHeartbeats 4000000

def rws (R : Nat → List Int) (n : Nat) : List (List Int) := (List.range n).map R
theorem rws_len (R : Nat → List Int) (n : Nat) : (rws R n).length = n := by simp [rws]
theorem rws_succ (R : Nat → List Int) (n : Nat) : (rws R (n + 1)).map UV = (rws R n).map UV ++ [V.uniq 1 (R n).length ((R n).map (V.int .i64))] := by
  unfold rws; rw [List.range_succ, List.map_append, List.map_append]; rfl
theorem apR' : apT Try.prog 77 = some (27, 1, 24) := by kernel_rfl
theorem zR' : zeroT Try.prog 27 = some [.nils] := by kernel_rfl
theorem ctR' : cellTys Try.prog 77 = [some 1] := by kernel_rfl
theorem zerosR' : zerosV 1 [V.nils] = [.nils] := rfl
def triRow (p : Int) (a b : List Int) (i : Nat) : List Int := (fromJ p a b a.length 0 i).take (i + 1)
def triR (p : Int) (a b : List Int) : List (List Int) × Int := if jacB p a b then (rws (triRow p a b) a.length, 0) else ([], 1)
theorem triRow_len {p : Int} {a b : List Int} {i : Nat} (h : i < a.length) : (triRow p a b i).length = i + 1 := by
  simp [triRow, fromJ_len]; omega
theorem triR_len (p : Int) (a b : List Int) : (triR p a b).1.length ≤ 12 ∧ ∀ f, f ∈ (triR p a b).1 → f.length ≤ 12 := by
  unfold triR
  split
  · rename_i h
    have hl := jacB_len h
    refine ⟨by simp [rws_len]; omega, fun f hf => ?_⟩
    simp only [rws, List.mem_map, List.mem_range] at hf
    obtain ⟨i, hi, rfl⟩ := hf
    rw [triRow_len hi]; omega
  · simp
end Go.Proofs.Ytacfkfdnncgjcaa.Ev
