/- The law FnNamedData answers true for every input, and leaves its input as it was. Conditions: none. -/
import Derived.Test.YtacfkfdnncgjcaaFnGC
import Derived.Test.YtacfkfdnncgjcaaEvW
import Derived.Test.YtacfkfdnncgjcaaRows
import Derived.WalkKit
import Derived.ProofKit
import Derived.OpenShut
import Derived.ShutString
import Derived.ChangeOld
import Derived.Below
import Derived.Carry
import Derived.SizedLaws
namespace Go.Proofs.Ytacfkfdnncgjcaa.fnNamedData
open Go Go.Proofs Go.Proofs.Ytacfkfdnncgjcaa.Ev
open Go.ChangeShapes Go.WideShapes Go.ChangeAt Go.RowKit
open Go.ChangeMaps (open_string shut_string)

set_option linter.unusedVariables false
set_option linter.unusedSimpArgs false
theorem own : ownKnob Try.prog.godebug = none := by kernel_rfl
theorem laidOut : laidOutB Try.prog = true := by kernel_rfl
theorem walk (W : World) (a0 : Option Addr) (len0 cap0 : Nat) (l0 : List Int) (h0 : ByteRow W a0 len0 cap0 l0) :
    Calls Try.prog 5 #[.slice a0 len0 cap0] W fun e w' => e = .returned (.bool true) ∧ Below W.heap.size W w' :=
  law_calls (E := E1) (by kernel_rfl) (E1_prims (by kernel_rfl)) Try.func5 rfl (by kernel_rfl) (run_lawNamedData l0 (ByteRow.le h0) (ByteRow.byte h0)) rfl W _ rfl (fun k hk => match k, hk with
    | 0, _ => ByteRow.pr h0
    | i + 1, h => absurd h (by simp))
set_option maxRecDepth 100000 in
theorem lifted (os : Os) (started : os.Started) (H : Type) (enc : TypeId × Value → H) :
    ReturnsInHanded {} Try.checked os 5 .any (Rows.fnNamedDataSpec.pre6 enc Try.prog Try.f5 Rows.fnNamedDataRow.domain false) (Rows.fnNamedDataSpec.post enc Try.prog Try.f5 false true false false) := by
  refine returnsInHanded_of_change_sized (C := Try.checked) own started (by kernel_rfl) Try.func5
    (ChangeSpec.witness6 (enc := enc) (C := Try.checked) false ⟨#[], #[.slice none 0 0], []⟩ 8 (by kernel_rfl) (by kernel_rfl) (by kernel_rfl) (by kernel_rfl)) ?_
  intro W base args ds gs before hval0 hW hcnd hsz0 _
  have hval : ∀ (j : Nat) t v, Try.f5.params[j]? = some t → args[j]? = some v → Value.okWide Try.prog W .any base t v := hval0
  have hW' := hW
  obtain ⟨p, q, hA0, hV, rfl, hfz, hnd⟩ := hW
  have hA : DataW.TrodAll enc Try.prog W 0 (fun _ => true) true Try.f5.params.toList args.toList ds p := hA0
  rw [Try.params5] at hA hval
  obtain ⟨v0, vs0, d0, ds0, p0, q0, hargs, rfl, rfl, h0, r0⟩ := trodAll_cons hA
  obtain ⟨rfl, rfl, rfl⟩ := trodAll_nil r0
  obtain rfl : args = #[v0] := by cases args; simp_all
  obtain ⟨rfl, rfl⟩ := trodVars_none hV
  obtain ⟨b0, bl0, bc0, rfl⟩ := okWide_slice Try.underlying22 (hval 0 22 v0 rfl rfl)
  have k0 := h0
  have lt0 : ∀ x ∈ p0, x.block < W.heap.size := by obtain ⟨m, hm⟩ := k0; exact DataW.trod_lt m _ _ _ hm
  obtain ⟨fu0, hf0⟩ := h0
  obtain ⟨a0, len0, cap0, z0, e0, w0⟩ := byteRow_open Try.underlying22 Try.underlying5 (by kernel_rfl) (v := .slice b0 bl0 bc0) (by simpa [Value.cells] using hf0)
  rw [e0] at k0
  try rw [e0] at hW'
  rw [e0]
  refine (walk W a0 len0 cap0 z0 w0).mono fun e W' ⟨he, bel⟩ => ?_
  subst he
  exact ⟨_, rfl, _, _, _, [], _, [], hW', trodAll_mk1 (shut_bool Try.underlying4 _), (trodAll_cons_mk (Below.trod laidOut (by kernel_rfl) (of_decide_eq_true (by kernel_rfl)) k0 bel lt0) trodAll_mk0), rfl, bel.frame _, fun h => by cases h⟩
theorem over : Rows.fnNamedDataRow.holds Try.pinned (OpenSpec.ofChange Rows.fnNamedDataSpec) :=
  OpenClaim.holds_of_wide 5 Try.f5 rfl rfl rfl rfl rfl rfl rfl ⟨rfl, rfl, rfl, rfl, rfl⟩ rfl rfl rfl rfl rfl (by kernel_rfl) Try.func5 (by kernel_rfl)
    (of_decide_eq_true (by kernel_rfl)) (by unfold Func.isWrapper; first | (rw [if_pos (by decide +kernel)]; kernel_rfl) | (rw [if_neg (by decide +kernel)]; exact ⟨rfl, rfl⟩))
    (fun os started H enc _ => lifted os started H enc)
end Go.Proofs.Ytacfkfdnncgjcaa.fnNamedData
namespace Go.Proofs.Ytacfkfdnncgjcaa
/-- The law holds of every input. -/
theorem fnNamedData_holds : Rows.FnNamedDataSaid := fnNamedData.over
end Go.Proofs.Ytacfkfdnncgjcaa
#print axioms Go.Proofs.Ytacfkfdnncgjcaa.fnNamedData_holds
