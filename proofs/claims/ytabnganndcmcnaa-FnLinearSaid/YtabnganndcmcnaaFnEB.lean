/- The environment in which the value of a polynomial is known by its contract. Conditions: none. -/
import Derived.Test.YtabnganndcmcnaaFnEA
import Derived.Test.YtabnganndcmcnaaFnBE
set_option linter.unusedSimpArgs false
set_option linter.unusedVariables false
namespace Go.Proofs.Ytabnganndcmcnaa.Ev
open Go Go.Proofs
set_option maxRecDepth 4000
set_option maxHeartbeats 4000000

def intsOf : List V → Option (List Int)
  | [] => some []
  | .int .i64 n :: vs => (intsOf vs).map (n :: ·)
  | _ => none
theorem intsOf_eq : ∀ {cs : List V} {zs : List Int}, intsOf cs = some zs → cs = zs.map (V.int .i64)
  | [], zs, h => by cases h; rfl
  | v :: vs, zs, h => by
    cases v with
    | int k n =>
      cases k with
      | i64 =>
        rw [intsOf] at h
        obtain ⟨ys, h1, rfl⟩ := Option.map_eq_some_iff.1 h
        rw [List.map_cons, intsOf_eq h1]
      | _ => simp [intsOf] at h
    | _ => simp [intsOf] at h
theorem intsOf_map : ∀ zs : List Int, intsOf (zs.map (V.int .i64)) = some zs
  | [] => rfl
  | z :: zs => by rw [List.map_cons, intsOf, intsOf_map zs]; rfl
/-- What (impl.field).value answers. -/
def valP : List V → Option Res
  | [.int .i64 p, .list n cs, .int .i64 x] => match intsOf cs with
    | some zs => if 2 ≤ p ∧ p ≤ 10007 ∧ n = zs.length ∧ zs.length ≤ 1048576 then some ⟨true, .int .i64 (valV p x zs), [.undef, .undef, .undef]⟩ else none
    | none => none
  | _ => none
/-- The functions that lead to it: run by E4. -/
def newB (f : FuncId) : Bool := [7, 77].contains f
def valB (f : FuncId) : Bool := f == 192
noncomputable def E4 : Env := { P := Try.prog, modes := modesOf, strict := fun _ => false, prim := fun f args => if valB f then valP args else if newB f then none else runv E1 f args, reb := true }
theorem E4_P : E4.P = Try.prog := rfl
theorem E4_m (f : FuncId) : E4.modes f = modesOf f := rfl
theorem E4_s (f : FuncId) : E4.strict f = false := rfl
theorem up4 {f : FuncId} {args : List V} {r : Res} (h : runv E1 f args = some r) (ho : (valB f || newB f) = false := by rfl) : runv E4 f args = some r :=
  runv_of_run ⟨1, by
    rw [Bool.or_eq_false_iff] at ho
    have e : E4.prim f args = some r := by
      show (if valB f then valP args else if newB f then none else runv E1 f args) = some r
      rw [ho.1, ho.2]; exact h
    unfold callF
    rw [e]⟩
theorem run_value (p x : Int) (zs : List Int) (hp : 2 ≤ p ∧ p ≤ 10007) (hl : zs.length ≤ 1048576) : runv E4 192 [(V.int .i64 (p)), (V.list (List.length (zs)) (List.map (V.int .i64) (zs))), (V.int .i64 (x))] = some ⟨true, .int .i64 (valV p x zs), [.undef, .undef, .undef]⟩ :=
  runv_of_run ⟨1, by
    have e : E4.prim 192 [(V.int .i64 (p)), (V.list (List.length (zs)) (List.map (V.int .i64) (zs))), (V.int .i64 (x))] = some ⟨true, .int .i64 (valV p x zs), [.undef, .undef, .undef]⟩ := by
      show valP [(V.int .i64 (p)), (V.list (List.length (zs)) (List.map (V.int .i64) (zs))), (V.int .i64 (x))] = _
      simp only [valP, intsOf_map]
      rw [if_pos ⟨hp.1, hp.2, trivial, hl⟩]
    unfold callF
    rw [e]⟩
theorem E4_prims (hm : Try.prog.follows .mixedOrders = true) : PrimsOk E4 := fun f vals r h => by
  have h' : (if valB f then valP vals else if newB f then none else runv E1 f vals) = some r := h
  split at h'
  · rename_i hv
    have hv : f = 192 := by simpa [valB] using hv
    subst hv
    unfold valP at h'
    split at h'
    · split at h'
      · rename_i zs hz
        split at h'
        · rename_i hc
          obtain ⟨h1, h2, h3, h4⟩ := hc
          injection h' with h'
          subst h'
          rw [intsOf_eq hz]
          subst h3
          exact value_callOk _ _ zs ⟨h1, h2⟩ h4
        · cases h'
      · cases h'
    · cases h'
  · split at h'
    · cases h'
    · exact runv_sound (E := E1) hm (E1_prims hm) h'
/-! ### The value, in plain terms -/
def hor (p x : Int) (f : List Int) : Nat → Int
  | 0 => 0
  | k + 1 => (hor p x f k * x + rdI f (f.length - 1 - k)) % p
theorem hor_range {p : Int} (hp : 2 ≤ p ∧ p ≤ 10007) (x : Int) (f : List Int) : ∀ k, 0 ≤ hor p x f k ∧ hor p x f k < p
  | 0 => ⟨Int.le_refl _, by show (0 : Int) < p; omega⟩
  | k + 1 => mod_small hp _
theorem w64' {n : Int} (h : -9223372036854775808 ≤ n ∧ n ≤ 9223372036854775807) : RowKit.wrap64 n = n := Rf.w64 h
theorem valR_hor {p x : Int} (hp : 2 ≤ p ∧ p ≤ 10007) (hx : 0 ≤ x ∧ x < p) {f : List Int} (hf : ∀ i, 0 ≤ rdI f i ∧ rdI f i < p) : ∀ k, Rf.valR p x (Rf.upto (Rf.bk f f.length) k) = hor p x f k
  | 0 => rfl
  | k + 1 => by
    rw [Rf.upto_succ, Rf.valR_snoc, valR_hor hp hx hf k]
    have r := hor_range hp x f k
    have m := mul_small (p := 10007) (by omega) (show 0 ≤ hor p x f k ∧ hor p x f k < 10007 by omega) (show 0 ≤ x ∧ x < 10007 by omega)
    have e : (Rf.bk f f.length k).2 = rdI f (f.length - 1 - k) := by
      unfold Rf.bk rdI
      simp only [List.getD_eq_getElem?_getD]
    have r2 := hf (f.length - 1 - k)
    have w1 : RowKit.wrap64 (hor p x f k * x) = hor p x f k * x := w64' (by omega)
    rw [e, w1, w64' (by omega)]
    rfl
theorem valV_hor {p x : Int} (hp : 2 ≤ p ∧ p ≤ 10007) (hx : 0 ≤ x ∧ x < p) {f : List Int} (hf : ∀ i, 0 ≤ rdI f i ∧ rdI f i < p) : valV p x f = hor p x f f.length := valR_hor hp hx hf _
end Go.Proofs.Ytabnganndcmcnaa.Ev
