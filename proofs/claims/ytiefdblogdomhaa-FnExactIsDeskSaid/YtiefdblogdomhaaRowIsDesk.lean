/- The law FnExactIsDesk answers true for every input, and leaves its input as it was. Conditions: none. -/
import Derived.Test.YtiefdblogdomhaaFnBL
import Derived.Test.YtiefdblogdomhaaEvW
import Derived.Test.YtiefdblogdomhaaRows
import Derived.WalkKit
import Derived.ProofKit
import Derived.OpenShut
import Derived.ShutString
import Derived.ChangeOld
import Derived.Below
import Derived.Carry
import Derived.SizedLaws
import Derived.Lib.SmallJoins
import Derived.ChangeSame
import Derived.Deep.Strs
namespace Go.Proofs.Ytiefdblogdomhaa.fnExactIsDesk
open Go Go.Proofs Go.Proofs.Ytiefdblogdomhaa.Ev
open Go.ChangeShapes Go.WideShapes Go.ChangeAt Go.RowKit
open Go.ChangeMaps (open_string shut_string)
open Go.Joins

set_option linter.unusedVariables false
set_option linter.unusedSimpArgs false
theorem own : ownKnob Try.prog.godebug = none := by kernel_rfl
theorem array6 {α : Type} {cs : Array α} (h : cs.size = 6) : ∃ c0 c1 c2 c3 c4 c5, cs = #[c0, c1, c2, c3, c4, c5] := by
  obtain ⟨l⟩ := cs
  match l, h with
  | [c0, c1, c2, c3, c4, c5], _ => exact ⟨c0, c1, c2, c3, c4, c5, rfl⟩
theorem laidOut : laidOutB Try.prog = true := by kernel_rfl
theorem walk (W : World) (a0_0 : Int) (a0_1 : Option Addr) (len0_1 cap0_1 : Nat) (l0_1 : List Int) (h0_1 : RowOf W a0_1 len0_1 cap0_1 l0_1) (a0_2 : Int) (a0_3 : Option Addr) (len0_3 cap0_3 : Nat) (l0_3 : List Int) (h0_3 : RowOf W a0_3 len0_3 cap0_3 l0_3) (a0_4 : Option Addr) (len0_4 cap0_4 : Nat) (l0_4 : List Int) (h0_4 : RowOf W a0_4 len0_4 cap0_4 l0_4) (a0_5 : Option Addr) (len0_5 cap0_5 : Nat) (l0_5 : List Int) (h0_5 : RowOf W a0_5 len0_5 cap0_5 l0_5) :
    Calls Try.prog 13 #[.agg #[.int .i64 a0_0, .slice a0_1 len0_1 cap0_1, .int .i64 a0_2, .slice a0_3 len0_3 cap0_3, .slice a0_4 len0_4 cap0_4, .slice a0_5 len0_5 cap0_5]] W fun e w' => e = .returned (.bool true) ∧ Below W.heap.size W w' :=
  law_calls (E := E1) (by kernel_rfl) (E1_prims (by kernel_rfl)) Try.func13 rfl (by kernel_rfl) (run_lawIsDesk a0_0 l0_1 a0_2 l0_3 l0_4 l0_5 (RowOf.le h0_1) (RowOf.le h0_3) (RowOf.le h0_4) (RowOf.le h0_5)) rfl W _ rfl (fun k hk => match k, hk with
    | 0, _ => .agg rfl (fun k hk => match k, hk with | 0, _ => .int _ _ | 1, _ => RowOf.pr h0_1 | 2, _ => .int _ _ | 3, _ => RowOf.pr h0_3 | 4, _ => RowOf.pr h0_4 | 5, _ => RowOf.pr h0_5 | j + 6, h => absurd h (by simp)) (fun k hk => match k, hk with | 0, _ => rfl | 1, _ => rfl | 2, _ => rfl | 3, _ => rfl | 4, _ => rfl | 5, _ => rfl | j + 6, h => absurd h (by simp))
    | i + 1, h => absurd h (by simp))
set_option maxRecDepth 100000 in
theorem lifted (os : Os) (started : os.Started) (H : Type) (enc : TypeId × Value → H) :
    ReturnsInHanded {} Try.checked os 13 .any (Rows.fnExactIsDeskSpec.pre6 enc Try.prog Try.f13 Rows.fnExactIsDeskRow.domain false) (Rows.fnExactIsDeskSpec.post enc Try.prog Try.f13 false true false false) := by
  refine returnsInHanded_of_change_sized (C := Try.checked) own started (by kernel_rfl) Try.func13
    (ChangeSpec.witness6 (enc := enc) (C := Try.checked) false ⟨#[], #[.agg #[.int .i64 0, .slice none 0 0, .int .i64 0, .slice none 0 0, .slice none 0 0, .slice none 0 0]], []⟩ 8 (by kernel_rfl) (by kernel_rfl) (by kernel_rfl) (by kernel_rfl)) ?_
  intro W base args ds gs before hval0 hW hcnd hsz0 _
  have hval : ∀ (j : Nat) t v, Try.f13.params[j]? = some t → args[j]? = some v → Value.okWide Try.prog W .any base t v := hval0
  have hW' := hW
  obtain ⟨p, q, hA0, hV, rfl, hfz, hnd⟩ := hW
  have hA : DataW.TrodAll enc Try.prog W 0 (fun _ => true) true Try.f13.params.toList args.toList ds p := hA0
  rw [Try.params13] at hA hval
  obtain ⟨v0, vs0, d0, ds0, p0, q0, hargs, rfl, rfl, h0, r0⟩ := trodAll_cons hA
  obtain ⟨rfl, rfl, rfl⟩ := trodAll_nil r0
  obtain rfl : args = #[v0] := by cases args; simp_all
  obtain ⟨rfl, rfl⟩ := trodVars_none hV
  have k0 := h0
  have lt0 : ∀ x ∈ p0, x.block < W.heap.size := by obtain ⟨m, hm⟩ := k0; exact DataW.trod_lt m _ _ _ hm
  obtain ⟨cs0, rfl, hsz0⟩ := okWide_struct Try.underlying64 (hval 0 64 v0 rfl rfl)
  obtain ⟨u0_0, u0_1, u0_2, u0_3, u0_4, u0_5, rfl⟩ := array6 (hsz0.trans (by kernel_rfl))
  obtain ⟨fu0, hf0⟩ := h0
  obtain ⟨y0, y1, y2, n0, hx0, _, m0, m1, m2⟩ := Go.Deep.trod_struct3 Try.underlying64 (by simpa [Value.cells] using hf0)
  have m0' : DataW.trod enc Try.prog W 0 (fun _ => true) true n0 42 [u0_0, u0_1] = some y0 := m0
  have m1' : DataW.trod enc Try.prog W 0 (fun _ => true) true n0 30 [u0_2, u0_3, u0_4] = some y1 := m1
  have m2' : DataW.trod enc Try.prog W 0 (fun _ => true) true n0 28 [u0_5] = some y2 := m2
  obtain ⟨z0, z1, n1, _, _, g0_0', g0_1'⟩ := trod_struct2 Try.underlying42 m0'
  obtain ⟨z2, z3, z4, n2, _, _, g0_2', g0_3', g0_4'⟩ := Go.Deep.trod_struct3 Try.underlying30 m1'
  have g0_0 : DataW.trod enc Try.prog W 0 (fun _ => true) true n1 2 [u0_0] = some z0 := g0_0'
  obtain ⟨a0_0, e0_0, _, _⟩ := DataW.trod_int Try.underlying2 g0_0
  obtain rfl : u0_0 = .int .i64 a0_0 := by injection e0_0
  have g0_1 : DataW.trod enc Try.prog W 0 (fun _ => true) true n1 28 [u0_1] = some z1 := g0_1'
  obtain ⟨b0_1, bl0_1, bc0_1, eb0_1⟩ := slice_form Try.underlying28 g0_1
  obtain rfl : u0_1 = .slice b0_1 bl0_1 bc0_1 := by simpa using eb0_1
  obtain ⟨a0_1, len0_1, cap0_1, z0_1, e0_1, w0_1⟩ := rowOf_open Try.underlying28 Try.underlying2 (by kernel_rfl) g0_1
  rw [e0_1] at k0
  try rw [e0_1] at hW'
  rw [e0_1]
  have g0_2 : DataW.trod enc Try.prog W 0 (fun _ => true) true n2 2 [u0_2] = some z2 := g0_2'
  obtain ⟨a0_2, e0_2, _, _⟩ := DataW.trod_int Try.underlying2 g0_2
  obtain rfl : u0_2 = .int .i64 a0_2 := by injection e0_2
  have g0_3 : DataW.trod enc Try.prog W 0 (fun _ => true) true n2 28 [u0_3] = some z3 := g0_3'
  obtain ⟨b0_3, bl0_3, bc0_3, eb0_3⟩ := slice_form Try.underlying28 g0_3
  obtain rfl : u0_3 = .slice b0_3 bl0_3 bc0_3 := by simpa using eb0_3
  obtain ⟨a0_3, len0_3, cap0_3, z0_3, e0_3, w0_3⟩ := rowOf_open Try.underlying28 Try.underlying2 (by kernel_rfl) g0_3
  rw [e0_3] at k0
  try rw [e0_3] at hW'
  rw [e0_3]
  have g0_4 : DataW.trod enc Try.prog W 0 (fun _ => true) true n2 28 [u0_4] = some z4 := g0_4'
  obtain ⟨b0_4, bl0_4, bc0_4, eb0_4⟩ := slice_form Try.underlying28 g0_4
  obtain rfl : u0_4 = .slice b0_4 bl0_4 bc0_4 := by simpa using eb0_4
  obtain ⟨a0_4, len0_4, cap0_4, z0_4, e0_4, w0_4⟩ := rowOf_open Try.underlying28 Try.underlying2 (by kernel_rfl) g0_4
  rw [e0_4] at k0
  try rw [e0_4] at hW'
  rw [e0_4]
  have g0_5 : DataW.trod enc Try.prog W 0 (fun _ => true) true n0 28 [u0_5] = some y2 := m2'
  obtain ⟨b0_5, bl0_5, bc0_5, eb0_5⟩ := slice_form Try.underlying28 g0_5
  obtain rfl : u0_5 = .slice b0_5 bl0_5 bc0_5 := by simpa using eb0_5
  obtain ⟨a0_5, len0_5, cap0_5, z0_5, e0_5, w0_5⟩ := rowOf_open Try.underlying28 Try.underlying2 (by kernel_rfl) g0_5
  rw [e0_5] at k0
  try rw [e0_5] at hW'
  rw [e0_5]
  refine (walk W a0_0 a0_1 len0_1 cap0_1 z0_1 w0_1 a0_2 a0_3 len0_3 cap0_3 z0_3 w0_3 a0_4 len0_4 cap0_4 z0_4 w0_4 a0_5 len0_5 cap0_5 z0_5 w0_5).mono fun e W' ⟨he, bel⟩ => ?_
  subst he
  exact ⟨_, rfl, _, _, _, [], _, [], hW', trodAll_mk1 (shut_bool Try.underlying4 _), (trodAll_cons_mk (Below.trod laidOut (by kernel_rfl) (of_decide_eq_true (by kernel_rfl)) k0 bel lt0) trodAll_mk0), rfl, bel.frame _, fun h => by cases h⟩
theorem over : Rows.fnExactIsDeskRow.holds Try.pinned (OpenSpec.ofChange Rows.fnExactIsDeskSpec) :=
  OpenClaim.holds_of_wide 13 Try.f13 rfl rfl rfl rfl rfl rfl rfl ⟨rfl, rfl, rfl, rfl, rfl⟩ rfl rfl rfl rfl rfl (by kernel_rfl) Try.func13 (by kernel_rfl)
    (of_decide_eq_true (by kernel_rfl)) (by unfold Func.isWrapper; first | (rw [if_pos (by decide +kernel)]; kernel_rfl) | (rw [if_neg (by decide +kernel)]; exact ⟨rfl, rfl⟩))
    (fun os started H enc _ => lifted os started H enc)
end Go.Proofs.Ytiefdblogdomhaa.fnExactIsDesk
namespace Go.Proofs.Ytiefdblogdomhaa
/-- The law holds of every input. -/
theorem fnExactIsDesk_holds : Rows.FnExactIsDeskSaid := fnExactIsDesk.over
end Go.Proofs.Ytiefdblogdomhaa
#print axioms Go.Proofs.Ytiefdblogdomhaa.fnExactIsDesk_holds
