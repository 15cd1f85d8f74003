/- The abstract interpreter: a law that answers true. Conditions: none. -/
import Derived.Test.YtclebbjpacpbmaaEvU
import Derived.Below
import Derived.ChangeSlices
import Derived.Laws.World
set_option linter.unusedVariables false
set_option linter.unusedSimpArgs false
namespace Go.Proofs.Ytclebbjpacpbmaa.Ev
open Go Go.RowKit

/-! ### Slices of whole numbers that are handed in -/
def RowOf (W : World) (a : Option Addr) (len cap : Nat) (zs : List Int) : Prop :=
  zs.length = len ∧ len ≤ cap ∧ cap ≤ maxLen ∧ (zs = [] ∨ ∃ x, a = some x ∧ x.block < W.heap.size ∧ ∀ i, i < zs.length → W.cell? (x.add i) = some (.int .i64 (zs.getD i 0)))
theorem RowOf.le {W : World} {a : Option Addr} {len cap : Nat} {zs : List Int} (h : RowOf W a len cap zs) : zs.length ≤ 9223372036854775807 := by
  have := h.1; have := h.2.1; have : cap ≤ 2 ^ 63 - 1 := h.2.2.1
  omega
theorem RowOf.pr {W : World} {a : Option Addr} {len cap : Nat} {zs : List Int} (h : RowOf W a len cap zs) : PR W (fun b => b < W.heap.size) (.list zs.length (zs.map (V.int .i64))) (.slice a len cap) := by
  obtain ⟨h1, h2, h3, h4⟩ := h
  subst h1
  refine .list (fun i => .int .i64 (zs.getD i 0)) ?_ h2 h3 (fun k hk => ?_) (fun _ _ => rfl)
  · rcases h4 with rfl | ⟨x, rfl, hb, hc⟩
    · exact .inl rfl
    · exact .inr ⟨x, rfl, hb, fun k hk => hc k (by simpa using hk)⟩
  · have hk' : k < zs.length := by simpa using hk
    have e : (zs.map (V.int .i64))[k] = V.int .i64 (zs.getD k 0) := by simp [hk']
    rw [e]
    exact .int _ _
theorem rowOf_open {H : Type} {enc : TypeId × Value → H} {P : Program} {W : World} {t e : TypeId} {v : Value} {fuel : Nat} {x : DataW H × List MemPlace} (ht : P.underlying t = some (.slice e)) (he : P.underlying e = some (.int .i64)) (hc : P.cellsOf e = 1)
    (h : DataW.trod enc P W 0 (fun _ => true) true fuel t [v] = some x) : ∃ a len cap zs, v = .slice a len cap ∧ RowOf W a len cap zs := by
  rcases Go.ChangeShapes.open_ints ht he hc h with ⟨hcs, _⟩ | ⟨a, len, cap, zs, hcs, _, hl, hm, hz, _, hcell, _⟩
  · injection hcs with hv _
    exact ⟨none, 0, 0, [], hv, rfl, Nat.le_refl _, Nat.zero_le _, .inl rfl⟩
  · injection hcs with hv _
    simp only [if_true] at hz
    refine ⟨some a, len, cap, zs.take len, hv, by simp; omega, hl, hm, ?_⟩
    by_cases h0 : zs.take len = []
    · exact .inl h0
    · right
      have hpos : 0 < zs.length := by
        cases zs with
        | nil => simp at h0
        | cons z zs => simp
      refine ⟨a, rfl, ?_, fun i hi => ?_⟩
      · have := World.block_lt_of_cell? _ _ (hcell 0 hpos)
        simpa [Addr.add] using this
      · have hi' : i < len ∧ i < zs.length := by have : i < min len zs.length := (by simpa using hi); omega
        rw [hcell i hi'.2]
        congr 2
        simp only [List.getD_eq_getElem?_getD, List.getElem?_take, hi'.1, if_true]

/-- A law whose abstract run answers true answers true, and leaves what was there as it was. -/
theorem law_calls {E : Env} (hm : E.P.follows .mixedOrders = true) (hp : PrimsOk E) {n : FuncId} {fn : Func} (hfn : E.P.funcs[n]? = some fn) (hb : fn.body.isNone = false) (hnm : (fn.name == "runtime.NumGoroutine") = false)
    {vals outs : List V} (h : runv E n vals = some ⟨true, .bool true, outs⟩) (ht : vals.all noTup = true) (w : World) (args : Array Value) (hl : args.size = vals.length)
    (ha : ∀ k (hk : k < vals.length), PR w (fun b => b < w.heap.size) vals[k] (args.getD k Go.undef)) :
    Calls E.P n args w fun e w' => e = .returned (.bool true) ∧ Below w.heap.size w w' := by
  have hg := (runv_sound hm hp h).2 w (fun b => b < w.heap.size) args (fun _ => []) hl (fun k hk => .pr (ha k hk)) ht (by rw [fm_nil]; exact List.nodup_nil) (by rw [fm_nil]; intro b hb; cases hb) (fun b hb => hb)
  rw [fm_nil] at hg
  rcases hg with ⟨f', args', h1, h2⟩ | ⟨z, w', h1, _⟩
  · simp only [callFunc, Sem.run_bind, run_program, Result.andThen_ok, hfn, hb, hnm, Bool.false_eq_true, if_false, Sem.run_pure, Result.ok.injEq, Next.enter.injEq] at h1
    obtain ⟨⟨rfl, rfl⟩, -⟩ := h1
    refine h2.mono fun e w' he => ?_
    cases e with
    | panicked c => exact he.elim
    | outgrown => exact he.elim
    | returned z =>
      obtain ⟨S', fp, fo, p⟩ := he
      have hz : z = .bool true := by
        rcases p.val with ⟨_, ht⟩ | ⟨hf, _⟩
        · cases ht with
          | pr h => cases h; rfl
        · cases hf
      exact ⟨by rw [hz], ⟨p.os, p.tape, p.output, p.size, fun b hb => p.fm b hb (by simp)⟩⟩
  · simp only [callFunc, Sem.run_bind, run_program, Result.andThen_ok, hfn, hb, hnm, Bool.false_eq_true, if_false, Sem.run_pure] at h1
    cases h1
end Go.Proofs.Ytclebbjpacpbmaa.Ev
