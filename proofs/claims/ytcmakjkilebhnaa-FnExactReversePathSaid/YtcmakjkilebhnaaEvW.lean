/- The abstract interpreter: a law that answers true. Conditions: none. -/
import Derived.Test.YtcmakjkilebhnaaEvU
import Derived.Below
set_option linter.unusedVariables false
set_option linter.unusedSimpArgs false
namespace Go.Proofs.Ytcmakjkilebhnaa.Ev
open Go Go.RowKit

/-- A law whose abstract run answers true answers true, and leaves what was there as it was. -/
theorem law_calls {E : Env} (hm : E.P.follows .mixedOrders = true) (hp : PrimsOk E) {n : FuncId} {fn : Func} (hfn : E.P.funcs[n]? = some fn) (hb : fn.body.isNone = false) (hnm : (fn.name == "runtime.NumGoroutine") = false)
    {vals outs : List V} (h : runv E n vals = some ⟨true, .bool true, outs⟩) (ht : vals.all noTup = true) (w : World) (args : Array Value) (hl : args.size = vals.length)
    (ha : ∀ k (hk : k < vals.length), PR w (fun b => b < w.heap.size) vals[k] (args.getD k Go.undef)) :
    Calls E.P n args w fun e w' => e = .returned (.bool true) ∧ Below w.heap.size w w' := by
  have hg := (runv_sound hm hp h).2 w (fun b => b < w.heap.size) args (fun _ => []) hl (fun k hk => .pr (ha k hk)) ht (by rw [fm_nil]; exact List.nodup_nil) (by rw [fm_nil]; intro b hb; cases hb) (fun b hb => hb)
  rw [fm_nil] at hg
  rcases hg with ⟨f', args', h1, h2⟩ | ⟨z, w', h1, _⟩
  · simp only [callFunc, Sem.run_bind, run_program, Result.andThen_ok, hfn, hb, hnm, Bool.false_eq_true, if_false, Sem.run_pure, Result.ok.injEq, Next.enter.injEq] at h1
    obtain ⟨⟨rfl, rfl⟩, -⟩ := h1
    refine h2.mono fun e w' he => ?_
    cases e with
    | panicked c => exact he.elim
    | outgrown => exact he.elim
    | returned z =>
      obtain ⟨S', fp, fo, p⟩ := he
      have hz : z = .bool true := by
        rcases p.val with ⟨_, ht⟩ | ⟨hf, _⟩
        · cases ht with
          | pr h => cases h; rfl
        · cases hf
      exact ⟨by rw [hz], ⟨p.os, p.tape, p.output, p.size, fun b hb => p.fm b hb (by simp)⟩⟩
  · simp only [callFunc, Sem.run_bind, run_program, Result.andThen_ok, hfn, hb, hnm, Bool.false_eq_true, if_false, Sem.run_pure] at h1
    cases h1
end Go.Proofs.Ytcmakjkilebhnaa.Ev
