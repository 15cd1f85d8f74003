/- The laws' helpers on lists of lists. Conditions: none. -/
import Derived.Test.YtabnganndcmcnaaFnBG
set_option linter.unusedSimpArgs false
set_option linter.unusedVariables false
namespace Go.Proofs.Ytabnganndcmcnaa.Ev
open Go Go.Proofs
set_option maxRecDepth 4000
set_option maxHeartbeats 4000000

/-! ### A law that hands rows over to be written -/
def lawB (f : FuncId) : Bool := [].contains f
noncomputable def E3 : Env := { P := Try.prog, modes := modesOf, strict := fun _ => true, prim := fun f args => if lawB f then none else runv E1 f args }
theorem E3_P : E3.P = Try.prog := rfl
theorem E3_m (f : FuncId) : E3.modes f = modesOf f := rfl
theorem E3_s (f : FuncId) : E3.strict f = true := rfl
theorem up3 {f : FuncId} {args : List V} {r : Res} (h : runv E1 f args = some r) (ho : lawB f = false := by rfl) : runv E3 f args = some r :=
  runv_of_run ⟨1, by
    have e : E3.prim f args = some r := by
      show (if lawB f then none else runv E1 f args) = some r
      rw [if_neg (by rw [ho]; simp), h]
    unfold callF
    rw [e]⟩
theorem E3_prims (hm : Try.prog.follows .mixedOrders = true) : PrimsOk E3 := fun f vals r h => by
  have h' : (if lawB f then none else runv E1 f vals) = some r := h
  split at h'
  · cases h'
  · exact runv_sound (E := E1) hm (E1_prims hm) h'
theorem slR' : slT Try.prog 71 = some (27, 1, 24) := by kernel_rfl
theorem undR' : Try.prog.underlying 71 = some (.slice 27) := by kernel_rfl
theorem rdL_at {r : List (List Int)} {i : Nat} (h : i < r.length) (g : List Int → V) : (r.map g)[i]? = some (g (rdL r i)) := by
  simp [rdL, h]
/-- What a marking of all rows leaves: where the i-th begins. -/
def mkAt (k : Int) (r : List (List Int)) : Nat → Int
  | 0 => k
  | i + 1 => mkAt k r i + (rdL r i).length
def mrow (k : Int) (r : List (List Int)) (n : Nat) : List (List Int) := (List.range n).map fun i => marks (mkAt k r i) (rdL r i).length
theorem mrow_len (k : Int) (r : List (List Int)) (n : Nat) : (mrow k r n).length = n := by simp [mrow]
theorem mkAt_ge (k : Int) (r : List (List Int)) : ∀ i, k ≤ mkAt k r i
  | 0 => Int.le_refl _
  | i + 1 => by have := mkAt_ge k r i; rw [mkAt]; omega
theorem mkAt_le (k : Int) (r : List (List Int)) (M : Nat) (hM : ∀ f, f ∈ r → f.length ≤ M) : ∀ i, mkAt k r i ≤ k + M * i
  | 0 => by rw [mkAt]; omega
  | i + 1 => by
    have := mkAt_le k r M hM i
    have h : (rdL r i).length ≤ M := by
      unfold rdL
      by_cases hi : i < r.length
      · have := hM _ (List.getElem_mem hi); simpa [hi] using this
      · simp [hi]
    rw [mkAt]
    have e : (M : Int) * ((i + 1 : Nat) : Int) = M * i + M := by rw [Int.natCast_add, Int.mul_add]; omega
    rw [e]; omega
end Go.Proofs.Ytabnganndcmcnaa.Ev
