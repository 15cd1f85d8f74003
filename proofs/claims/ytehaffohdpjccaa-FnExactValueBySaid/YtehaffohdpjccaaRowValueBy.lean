/- The law FnExactValueBy answers true for every input, and leaves its input as it was. Conditions: none. -/
import Derived.Test.YtehaffohdpjccaaFnEC
import Derived.Test.YtehaffohdpjccaaEvW
import Derived.Test.YtehaffohdpjccaaRows
import Derived.WalkKit
import Derived.ProofKit
import Derived.OpenShut
import Derived.ShutString
import Derived.ChangeOld
import Derived.Below
import Derived.Carry
import Derived.SizedLaws
import Derived.Lib.SmallJoins
namespace Go.Proofs.Ytehaffohdpjccaa.fnExactValueBy
open Go Go.Proofs Go.Proofs.Ytehaffohdpjccaa.Ev
open Go.ChangeShapes Go.WideShapes Go.ChangeAt Go.RowKit
open Go.ChangeMaps (open_string shut_string)
open Go.Joins

set_option linter.unusedVariables false
set_option linter.unusedSimpArgs false
theorem own : ownKnob Try.prog.godebug = none := by kernel_rfl
theorem laidOut : laidOutB Try.prog = true := by kernel_rfl
theorem walk (W : World) (a0_0 : Int) (a0_1 : Option Addr) (len0_1 cap0_1 : Nat) (l0_1 : List Int) (h0_1 : RowOf W a0_1 len0_1 cap0_1 l0_1) (a0_2 : Option Addr) (len0_2 cap0_2 : Nat) (l0_2 : List Int) (h0_2 : RowOf W a0_2 len0_2 cap0_2 l0_2) (a1 : Option Addr) (len1 cap1 : Nat) (l1 : List Int) (h1 : RowOf W a1 len1 cap1 l1) (a2 : Int) :
    Calls Try.prog 3 #[.agg #[.int .i64 a0_0, .slice a0_1 len0_1 cap0_1, .slice a0_2 len0_2 cap0_2], .slice a1 len1 cap1, .int .i64 a2] W fun e w' => e = .returned (.bool true) ∧ Below W.heap.size W w' :=
  law_calls (E := E4) (by kernel_rfl) (E4_prims (by kernel_rfl)) Try.func3 rfl (by kernel_rfl) (run_lawValueBy a0_0 l0_1 l0_2 l1 a2 (RowOf.le h0_1) (RowOf.le h0_2) (RowOf.le h1)) rfl W _ rfl (fun k hk => match k, hk with
    | 0, _ => .agg rfl (fun k hk => match k, hk with | 0, _ => .int _ _ | 1, _ => RowOf.pr h0_1 | 2, _ => RowOf.pr h0_2 | j + 3, h => absurd h (by simp)) (fun k hk => match k, hk with | 0, _ => rfl | 1, _ => rfl | 2, _ => rfl | j + 3, h => absurd h (by simp))
    | 1, _ => RowOf.pr h1
    | 2, _ => .int _ _
    | i + 3, h => absurd h (by simp))
set_option maxRecDepth 100000 in
theorem lifted (os : Os) (started : os.Started) (H : Type) (enc : TypeId × Value → H) :
    ReturnsInHanded {} Try.checked os 3 .any (Rows.fnExactValueBySpec.pre6 enc Try.prog Try.f3 Rows.fnExactValueByRow.domain false) (Rows.fnExactValueBySpec.post enc Try.prog Try.f3 false true false false) := by
  refine returnsInHanded_of_change_sized (C := Try.checked) own started (by kernel_rfl) Try.func3
    (ChangeSpec.witness6 (enc := enc) (C := Try.checked) false ⟨#[], #[.agg #[.int .i64 0, .slice none 0 0, .slice none 0 0], .slice none 0 0, .int .i64 0], []⟩ 8 (by kernel_rfl) (by kernel_rfl) (by kernel_rfl) (by kernel_rfl)) ?_
  intro W base args ds gs before hval0 hW hcnd hsz0 _
  have hval : ∀ (j : Nat) t v, Try.f3.params[j]? = some t → args[j]? = some v → Value.okWide Try.prog W .any base t v := hval0
  have hW' := hW
  obtain ⟨p, q, hA0, hV, rfl, hfz, hnd⟩ := hW
  have hA : DataW.TrodAll enc Try.prog W 0 (fun _ => true) true Try.f3.params.toList args.toList ds p := hA0
  rw [Try.params3] at hA hval
  obtain ⟨v0, vs0, d0, ds0, p0, q0, hargs, rfl, rfl, h0, r0⟩ := trodAll_cons hA
  obtain ⟨v1, vs1, d1, ds1, p1, q1, rfl, rfl, rfl, h1, r1⟩ := trodAll_cons r0
  obtain ⟨v2, vs2, d2, ds2, p2, q2, rfl, rfl, rfl, h2, r2⟩ := trodAll_cons r1
  obtain ⟨rfl, rfl, rfl⟩ := trodAll_nil r2
  obtain rfl : args = #[v0, v1, v2] := by cases args; simp_all
  obtain ⟨rfl, rfl⟩ := trodVars_none hV
  have k0 := h0
  have lt0 : ∀ x ∈ p0, x.block < W.heap.size := by obtain ⟨m, hm⟩ := k0; exact DataW.trod_lt m _ _ _ hm
  obtain ⟨u0_0, u0_1, u0_2, y0_0, y0_1, y0_2, fu0, rfl, rfl, rfl, g0_0, g0_1, g0_2⟩ := open_agg3 Try.underlying24 (by kernel_rfl) (by kernel_rfl) (hval 0 24 v0 rfl rfl) h0
  obtain ⟨a0_0, e0_0, _, _⟩ := DataW.trod_int Try.underlying2 g0_0
  obtain rfl : u0_0 = .int .i64 a0_0 := by injection e0_0
  obtain ⟨a0_1, len0_1, cap0_1, z0_1, rfl, w0_1⟩ := rowOf_open Try.underlying22 Try.underlying2 (by kernel_rfl) g0_1
  obtain ⟨a0_2, len0_2, cap0_2, z0_2, rfl, w0_2⟩ := rowOf_open Try.underlying22 Try.underlying2 (by kernel_rfl) g0_2
  obtain ⟨b1, bl1, bc1, rfl⟩ := okWide_slice Try.underlying22 (hval 1 22 v1 rfl rfl)
  have k1 := h1
  have lt1 : ∀ x ∈ p1, x.block < W.heap.size := by obtain ⟨m, hm⟩ := k1; exact DataW.trod_lt m _ _ _ hm
  obtain ⟨fu1, hf1⟩ := h1
  obtain ⟨a1, len1, cap1, z1, e1, w1⟩ := rowOf_open Try.underlying22 Try.underlying2 (by kernel_rfl) (v := .slice b1 bl1 bc1) (by simpa [Value.cells] using hf1)
  rw [e1] at k1
  try rw [e1] at hW'
  rw [e1]
  obtain ⟨a2, rfl, rfl, rfl, w2⟩ := open_int Try.underlying2 (hval 2 2 v2 rfl rfl) h2
  refine (walk W a0_0 a0_1 len0_1 cap0_1 z0_1 w0_1 a0_2 len0_2 cap0_2 z0_2 w0_2 a1 len1 cap1 z1 w1 a2).mono fun e W' ⟨he, bel⟩ => ?_
  subst he
  exact ⟨_, rfl, _, _, _, [], _, [], hW', trodAll_mk1 (shut_bool Try.underlying4 _), (trodAll_cons_mk (Below.trod laidOut (by kernel_rfl) (of_decide_eq_true (by kernel_rfl)) k0 bel lt0) (trodAll_cons_mk (Below.trod laidOut (by kernel_rfl) (of_decide_eq_true (by kernel_rfl)) k1 bel lt1) (trodAll_cons_mk (shut_int Try.underlying2 w2) trodAll_mk0))), rfl, bel.frame _, fun h => by cases h⟩
theorem over : Rows.fnExactValueByRow.holds Try.pinned (OpenSpec.ofChange Rows.fnExactValueBySpec) :=
  OpenClaim.holds_of_wide 3 Try.f3 rfl rfl rfl rfl rfl rfl rfl ⟨rfl, rfl, rfl, rfl, rfl⟩ rfl rfl rfl rfl rfl (by kernel_rfl) Try.func3 (by kernel_rfl)
    (of_decide_eq_true (by kernel_rfl)) (by unfold Func.isWrapper; first | (rw [if_pos (by decide +kernel)]; kernel_rfl) | (rw [if_neg (by decide +kernel)]; exact ⟨rfl, rfl⟩))
    (fun os started H enc _ => lifted os started H enc)
end Go.Proofs.Ytehaffohdpjccaa.fnExactValueBy
namespace Go.Proofs.Ytehaffohdpjccaa
/-- The law holds of every input. -/
theorem fnExactValueBy_holds : Rows.FnExactValueBySaid := fnExactValueBy.over
end Go.Proofs.Ytehaffohdpjccaa
#print axioms Go.Proofs.Ytehaffohdpjccaa.fnExactValueBy_holds
