/- The law FnJacobiData answers true for every input, and leaves its input as it was. Conditions: none. -/
import Derived.Test.YtacfkfdnncgjcaaGreatFnFU
import Derived.Test.YtacfkfdnncgjcaaGreatEvW
import Derived.Test.YtacfkfdnncgjcaaGreatRows
import Derived.WalkKit
import Derived.ProofKit
import Derived.OpenShut
import Derived.ShutString
import Derived.ChangeOld
import Derived.Below
import Derived.Carry
import Derived.SizedLaws
namespace Go.Proofs.YtacfkfdnncgjcaaGreat.fnJacobiData
open Go Go.Proofs Go.Proofs.YtacfkfdnncgjcaaGreat.Ev
open Go.ChangeShapes Go.WideShapes Go.ChangeAt Go.RowKit
open Go.ChangeMaps (open_string shut_string)

set_option linter.unusedVariables false
set_option linter.unusedSimpArgs false
theorem own : ownKnob Tryz.prog.godebug = none := by kernel_rfl
theorem laidOut : laidOutB Tryz.prog = true := by kernel_rfl
theorem walk (W : World) (a0 : Option Addr) (len0 cap0 : Nat) (l0 : List Int) (h0 : ByteRow W a0 len0 cap0 l0) :
    Calls Tryz.prog 3 #[.slice a0 len0 cap0] W fun e w' => e = .returned (.bool true) ∧ Below W.heap.size W w' :=
  law_calls (E := E1) (by kernel_rfl) (E1_prims (by kernel_rfl)) Tryz.func3 rfl (by kernel_rfl) (run_lawJacobiData l0 (ByteRow.le h0) (ByteRow.byte h0)) rfl W _ rfl (fun k hk => match k, hk with
    | 0, _ => ByteRow.pr h0
    | i + 1, h => absurd h (by simp))
set_option maxRecDepth 100000 in
theorem lifted (os : Os) (started : os.Started) (H : Type) (enc : TypeId × Value → H) :
    ReturnsInHanded {} Tryz.checked os 3 .any (Rows.fnJacobiDataSpec.pre6 enc Tryz.prog Tryz.f3 Rows.fnJacobiDataRow.domain false) (Rows.fnJacobiDataSpec.post enc Tryz.prog Tryz.f3 false true false false) := by
  refine returnsInHanded_of_change_sized (C := Tryz.checked) own started (by kernel_rfl) Tryz.func3
    (ChangeSpec.witness6 (enc := enc) (C := Tryz.checked) false ⟨#[], #[.slice none 0 0], []⟩ 8 (by kernel_rfl) (by kernel_rfl) (by kernel_rfl) (by kernel_rfl)) ?_
  intro W base args ds gs before hval0 hW hcnd hsz0 _
  have hval : ∀ (j : Nat) t v, Tryz.f3.params[j]? = some t → args[j]? = some v → Value.okWide Tryz.prog W .any base t v := hval0
  have hW' := hW
  obtain ⟨p, q, hA0, hV, rfl, hfz, hnd⟩ := hW
  have hA : DataW.TrodAll enc Tryz.prog W 0 (fun _ => true) true Tryz.f3.params.toList args.toList ds p := hA0
  rw [Tryz.params3] at hA hval
  obtain ⟨v0, vs0, d0, ds0, p0, q0, hargs, rfl, rfl, h0, r0⟩ := trodAll_cons hA
  obtain ⟨rfl, rfl, rfl⟩ := trodAll_nil r0
  obtain rfl : args = #[v0] := by cases args; simp_all
  obtain ⟨rfl, rfl⟩ := trodVars_none hV
  obtain ⟨b0, bl0, bc0, rfl⟩ := okWide_slice Tryz.underlying22 (hval 0 22 v0 rfl rfl)
  have k0 := h0
  have lt0 : ∀ x ∈ p0, x.block < W.heap.size := by obtain ⟨m, hm⟩ := k0; exact DataW.trod_lt m _ _ _ hm
  obtain ⟨fu0, hf0⟩ := h0
  obtain ⟨a0, len0, cap0, z0, e0, w0⟩ := byteRow_open Tryz.underlying22 Tryz.underlying5 (by kernel_rfl) (v := .slice b0 bl0 bc0) (by simpa [Value.cells] using hf0)
  rw [e0] at k0
  try rw [e0] at hW'
  rw [e0]
  refine (walk W a0 len0 cap0 z0 w0).mono fun e W' ⟨he, bel⟩ => ?_
  subst he
  exact ⟨_, rfl, _, _, _, [], _, [], hW', trodAll_mk1 (shut_bool Tryz.underlying4 _), (trodAll_cons_mk (Below.trod laidOut (by kernel_rfl) (of_decide_eq_true (by kernel_rfl)) k0 bel lt0) trodAll_mk0), rfl, bel.frame _, fun h => by cases h⟩
theorem over : Rows.fnJacobiDataRow.holds Tryz.pinned (OpenSpec.ofChange Rows.fnJacobiDataSpec) :=
  OpenClaim.holds_of_wide 3 Tryz.f3 rfl rfl rfl rfl rfl rfl rfl ⟨rfl, rfl, rfl, rfl, rfl⟩ rfl rfl rfl rfl rfl (by kernel_rfl) Tryz.func3 (by kernel_rfl)
    (of_decide_eq_true (by kernel_rfl)) (by unfold Func.isWrapper; first | (rw [if_pos (by decide +kernel)]; kernel_rfl) | (rw [if_neg (by decide +kernel)]; exact ⟨rfl, rfl⟩))
    (fun os started H enc _ => lifted os started H enc)
end Go.Proofs.YtacfkfdnncgjcaaGreat.fnJacobiData
namespace Go.Proofs.YtacfkfdnncgjcaaGreat
/-- The law holds of every input. -/
theorem fnJacobiData_holds : Rows.FnJacobiDataSaid := fnJacobiData.over
end Go.Proofs.YtacfkfdnncgjcaaGreat
#print axioms Go.Proofs.YtacfkfdnncgjcaaGreat.fnJacobiData_holds
