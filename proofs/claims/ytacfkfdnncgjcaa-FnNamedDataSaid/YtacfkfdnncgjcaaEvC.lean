/- The abstract interpreter: more rounds tell the same; the equations by which it is run. what abstract values say of memory. the objects numbered anew. Conditions: none. -/
import Derived.Test.YtacfkfdnncgjcaaEvA
section
set_option linter.unusedVariables false
set_option linter.unusedSimpArgs false
namespace Go.Proofs.Ytacfkfdnncgjcaa.Ev
open Go

def Ext (c c' : FuncId → List V → Option Res) : Prop := ∀ f args r, c f args = some r → c' f args = some r

theorem Ext.refl (c : FuncId → List V → Option Res) : Ext c c := fun _ _ _ h => h
theorem Ext.trans {a b c : FuncId → List V → Option Res} (h : Ext a b) (k : Ext b c) : Ext a c := fun f args r e => k f args r (h f args r e)

theorem callD_mono {H : Nat → Option Ob} {b : Nat} {s : Bool} {modes : List Nat} {c c' : List V → Option Res} {args : List V} {d : D}
    (h : ∀ a r, c a = some r → c' a = some r) (e : callD H b s modes c args = some d) : callD H b s modes c' args = some d := by
  unfold callD at e ⊢
  cases hp : prepL H modes args with
  | none => simp [hp] at e
  | some ps =>
    simp only [hp] at e ⊢
    split at e
    · rename_i hc
      rw [if_pos hc]
      cases hcall : c (ps.map (·.v)) with
      | none => simp [hcall] at e
      | some r =>
        simp only [hcall] at e
        simp only [h _ _ hcall]
        exact e
    · cases e

theorem opD_mono {P : Program} {modes : FuncId → List Nat} {s : Bool} {c c' : FuncId → List V → Option Res} {fr : Nat → V} {H : Nat → Option Ob} {b : Nat} {op : Op} {d : D}
    (h : Ext c c') (e : opD P modes s c fr H b op = some d) : opD P modes s c' fr H b op = some d := by
  cases op <;> try exact e
  rename_i cl
  simp only [opD] at e ⊢
  unfold callOp at e ⊢
  split at e
  · exact e
  · obtain ⟨args, h1, h2⟩ := Option.bind_eq_some_iff.1 e
    obtain ⟨x, h3, h4⟩ := Option.bind_eq_some_iff.1 h2
    rw [h1, Option.bind_some, h3, Option.bind_some]
    exact callD_mono (fun a r => h _ a r) h4
  · exact e

theorem stepD_mono {E : Env} {s : Bool} {c c' : FuncId → List V → Option Res} {ops : List Oper} {i : Nat} {o : Oper} {st : St} {d : D}
    (h : Ext c c') (e : stepD E s c ops i o st = some d) : stepD E s c' ops i o st = some d := by
  unfold stepD at e ⊢
  split at e
  · exact opD_mono h e
  · exact e
  · cases e

theorem runO_mono {E : Env} {s : Bool} {c c' : FuncId → List V → Option Res} {ops : List Oper} (h : Ext c c') : ∀ (rest : List Oper) (i : Nat) (st : St) (acc : List D) (r : St × List D),
    runO E s c ops rest i st acc = some r → runO E s c' ops rest i st acc = some r
  | [], i, st, acc, r, e => e
  | o :: rest, i, st, acc, r, e => by
    unfold runO at e ⊢
    cases hd : stepD E s c ops i o st with
    | none => simp [hd] at e
    | some d =>
      simp only [hd] at e
      simp only [stepD_mono h hd]
      exact runO_mono h rest (i + 1) _ _ r e

theorem execL_mono {E : Env} {s : Bool} {c c' : FuncId → List V → Option Res} (h : Ext c c') : ∀ (n m : Nat) (items : List Item) (st st' : St), n ≤ m →
    execL E s c n items st = some st' → execL E s c' m items st = some st' := by
  intro n
  induction n with
  | zero => intro m items st st' hm e; simp [execL] at e
  | succ n ih =>
    intro m items st st' hm e
    obtain ⟨m, rfl⟩ : ∃ j, m = j + 1 := ⟨m - 1, by omega⟩
    have hm' : n ≤ m := by omega
    unfold execL at e ⊢
    split at e <;> try exact e
    all_goals try exact ih m _ _ _ hm' e
    · split at e
      · exact ih m _ _ _ hm' e
      · cases e
    · split at e
      · exact ih m _ _ _ hm' e
      · cases e
    · split at e
      · exact ih m _ _ _ hm' e
      · cases e
    · split at e
      · rename_i hr
        rw [runO_mono h _ _ _ _ _ hr]
        simp only
        split at e
        · cases e
        · rename_i hc
          rw [if_neg hc]
          exact ih m _ _ _ hm' e
      · cases e

theorem callF_succ {E : Env} : ∀ n, Ext (callF E n) (callF E (n + 1)) := by
  intro n
  induction n with
  | zero => intro f args r e; simp [callF] at e
  | succ n ih =>
    intro f args r e
    unfold callF at e ⊢
    split at e
    · exact e
    · split at e
      · split at e
        · split at e
          · rename_i h1 _ fn h2 _ c h3 h4
            rw [if_pos h4]
            obtain ⟨st, hs, hf⟩ := Option.bind_eq_some_iff.1 e
            exact Option.bind_eq_some_iff.2 ⟨st, execL_mono ih n (n + 1) _ _ _ (by omega) hs, hf⟩
          · cases e
        · cases e
      · cases e

theorem callF_mono {E : Env} {n m : Nat} (h : n ≤ m) : Ext (callF E n) (callF E m) := by
  induction h with
  | refl => exact Ext.refl _
  | step _ ih => exact ih.trans (callF_succ _)

/-- What a call comes to, at however many rounds. -/
def Run (E : Env) (f : FuncId) (args : List V) (r : Res) : Prop := ∃ n, callF E n f args = some r

theorem Run.unique {E : Env} {f : FuncId} {args : List V} {r r' : Res} (h : Run E f args r) (h' : Run E f args r') : r = r' := by
  obtain ⟨n, hn⟩ := h
  obtain ⟨m, hm⟩ := h'
  have a := callF_mono (Nat.le_max_left n m) f args r hn
  have b := callF_mono (Nat.le_max_right n m) f args r' hm
  rw [a] at b
  injection b

open Classical in
noncomputable def runv (E : Env) (f : FuncId) (args : List V) : Option Res := if h : ∃ r, Run E f args r then some h.choose else none

theorem runv_of_run {E : Env} {f : FuncId} {args : List V} {r : Res} (h : Run E f args r) : runv E f args = some r := by
  have hex : ∃ r, Run E f args r := ⟨r, h⟩
  unfold runv
  rw [dif_pos hex]
  exact congrArg some (hex.choose_spec.unique h)
theorem run_of_runv {E : Env} {f : FuncId} {args : List V} {r : Res} (h : runv E f args = some r) : Run E f args r := by
  unfold runv at h
  split at h
  · rename_i hex
    injection h with h
    rw [← h]
    exact hex.choose_spec
  · cases h
theorem callF_runv {E : Env} (n : Nat) : Ext (callF E n) (runv E) := fun f args r h => runv_of_run ⟨n, h⟩

/-! ### Code: what is left to do comes to an end, and there Q holds -/
def WL (E : Env) (s : Bool) (items : List Item) (Q : St → Prop) (st : St) : Prop := ∃ n st', execL E s (callF E n) n items st = some st' ∧ Q st'

theorem WL_step {E : Env} {s : Bool} {items items' : List Item} {Q : St → Prop} {st st' : St}
    (h : ∀ n c, execL E s c (n + 1) items st = execL E s c n items' st') : WL E s items Q st = WL E s items' Q st' := by
  apply propext
  constructor
  · rintro ⟨n, r, e, q⟩
    cases n with
    | zero => simp [execL] at e
    | succ n =>
      rw [h] at e
      exact ⟨n + 1, r, execL_mono (Ext.refl _) n (n + 1) _ _ _ (by omega) e, q⟩
  · rintro ⟨n, r, e, q⟩
    exact ⟨n + 1, r, by rw [h]; exact execL_mono (callF_succ n) n n _ _ _ (Nat.le_refl _) e, q⟩

theorem WL_end {E : Env} {s : Bool} {items : List Item} {Q : St → Prop} {st : St} (h : ∀ n c, execL E s c (n + 1) items st = some st) : WL E s items Q st = Q st := by
  apply propext
  constructor
  · rintro ⟨n, r, e, q⟩
    cases n with
    | zero => simp [execL] at e
    | succ n =>
      rw [h] at e
      injection e with e
      rw [e]
      exact q
  · intro q
    exact ⟨1, st, h 0 _, q⟩

section
variable {E : Env} {s : Bool} {Q : St → Prop} {st : St} {k : List Item}
theorem WL_nil : WL E s [] Q st = Q st := WL_end fun n c => rfl
theorem WL_ret : WL E s (.code .ret :: k) Q st = Q st := WL_end fun n c => rfl
theorem WL_skip : WL E s (.code .skip :: k) Q st = WL E s k Q st := WL_step fun n c => rfl
theorem WL_label {l : Nat} : WL E s (.code (.label l) :: k) Q st = WL E s k Q st := WL_step fun n c => rfl
theorem WL_inBlock {l : Nat} : WL E s (.inBlock l :: k) Q st = WL E s k Q st := WL_step fun n c => rfl
theorem WL_inScope {b : Code} : WL E s (.inScope b :: k) Q st = WL E s k Q st := WL_step fun n c => rfl
theorem WL_seq {a b : Code} : WL E s (.code (.seq a b) :: k) Q st = WL E s (.code a :: .code b :: k) Q st := WL_step fun n c => rfl
theorem WL_block {l : Nat} {b : Code} : WL E s (.code (.block l b) :: k) Q st = WL E s (.code b :: .inBlock l :: k) Q st := WL_step fun n c => rfl
theorem WL_loop {b : Code} : WL E s (.code (.loop b) :: k) Q st = WL E s (.inLoop b :: k) Q st := by
  rw [WL_step (items := .code (.loop b) :: k) (items' := .code b :: .inLoop b :: k) (st' := headSt E (.inLoop b :: k) st) fun n c => rfl, WL_step (items := .inLoop b :: k) (items' := .code b :: .inLoop b :: k) (st' := headSt E (.inLoop b :: k) st) fun n c => rfl]
theorem WL_head {b : Code} : WL E s (.inLoop b :: k) Q st = WL E s (.code b :: .inLoop b :: k) Q (headSt E (.inLoop b :: k) st) := WL_step fun n c => rfl
theorem WL_inLoop (hr : E.reb = false) {b : Code} : WL E s (.inLoop b :: k) Q st = WL E s (.code b :: .inLoop b :: k) Q st := by
  rw [WL_head, headSt, hr]; rfl
theorem WL_scope {b : Code} : WL E s (.code (.scope b) :: k) Q st = WL E s (.code b :: .inScope b :: k) Q st := WL_step fun n c => rfl
theorem WL_exit {l : Nat} {k' : List Item} (h : exitTo l k = some k') : WL E s (.code (.exit l) :: k) Q st = WL E s k' Q st :=
  WL_step fun n c => by simp only [execL, h]
theorem WL_goto {l : Nat} {k' : List Item} (h : gotoIn l k = some k') : WL E s (.code (.goto l) :: k) Q st = WL E s k' Q st :=
  WL_step fun n c => by simp only [execL, h]
theorem WL_cond_t {c : Operand} {a b : Code} (h : ev st.fr c = some (.bool true)) : WL E s (.code (.cond c a b) :: k) Q st = WL E s (.code a :: k) Q st :=
  WL_step fun n c => by simp only [execL, h, if_true]
theorem WL_cond_f {c : Operand} {a b : Code} (h : ev st.fr c = some (.bool false)) : WL E s (.code (.cond c a b) :: k) Q st = WL E s (.code b :: k) Q st :=
  WL_step fun n c => by simp only [execL, h, Bool.false_eq_true, if_false]
end

/-- A test, by its Bool. -/
def WC (E : Env) (s : Bool) (v : Option V) (a b : Code) (k : List Item) (Q : St → Prop) (st : St) : Prop :=
  match v with
  | some (.bool true) => WL E s (.code a :: k) Q st
  | some (.bool false) => WL E s (.code b :: k) Q st
  | _ => False

theorem WL_cond {E : Env} {s : Bool} {Q : St → Prop} {st : St} {k : List Item} {c : Operand} {a b : Code} :
    WL E s (.code (.cond c a b) :: k) Q st = WC E s (ev st.fr c) a b k Q st := by
  unfold WC
  split
  · rename_i h; exact WL_cond_t h
  · rename_i h; exact WL_cond_f h
  · rename_i h1 h2
    apply propext
    constructor
    · rintro ⟨n, r, e, q⟩
      cases n with
      | zero => simp [execL] at e
      | succ n =>
        simp only [execL] at e
        split at e
        · rename_i t ht
          cases t
          · exact h2 ht
          · exact h1 ht
        · cases e
    · intro h; exact h.elim
theorem WC_t {E : Env} {s : Bool} {Q : St → Prop} {st : St} {k : List Item} {a b : Code} : WC E s (some (.bool true)) a b k Q st = WL E s (.code a :: k) Q st := rfl
theorem WC_f {E : Env} {s : Bool} {Q : St → Prop} {st : St} {k : List Item} {a b : Code} : WC E s (some (.bool false)) a b k Q st = WL E s (.code b :: k) Q st := rfl

/-- A jump, by where it leads. -/
def WX (E : Env) (s : Bool) (k : Option (List Item)) (Q : St → Prop) (st : St) : Prop :=
  match k with
  | some k => WL E s k Q st
  | none => False

theorem WL_exitX {E : Env} {s : Bool} {Q : St → Prop} {st : St} {k : List Item} {l : Nat} : WL E s (.code (.exit l) :: k) Q st = WX E s (exitTo l k) Q st := by
  cases h : exitTo l k with
  | some k' => exact WL_exit h
  | none =>
    apply propext
    constructor
    · rintro ⟨n, r, e, q⟩
      cases n with
      | zero => simp [execL] at e
      | succ n => simp [execL, h] at e
    · intro h; exact h.elim
theorem WL_gotoX {E : Env} {s : Bool} {Q : St → Prop} {st : St} {k : List Item} {l : Nat} : WL E s (.code (.goto l) :: k) Q st = WX E s (gotoIn l k) Q st := by
  cases h : gotoIn l k with
  | some k' => exact WL_goto h
  | none =>
    apply propext
    constructor
    · rintro ⟨n, r, e, q⟩
      cases n with
      | zero => simp [execL] at e
      | succ n => simp [execL, h] at e
    · intro h; exact h.elim
theorem WX_some {E : Env} {s : Bool} {Q : St → Prop} {st : St} {k : List Item} : WX E s (some k) Q st = WL E s k Q st := rfl

/-! ### Regions -/
theorem stepD_runv {E : Env} {s : Bool} {ops : List Oper} {i : Nat} {o : Oper} {st : St} {d : D} (h : stepD E s (runv E) ops i o st = some d) :
    ∃ n, stepD E s (callF E n) ops i o st = some d := by
  unfold stepD at h ⊢
  split at h
  · generalize o.op = op at h ⊢
    cases op <;> try exact ⟨0, h⟩
    rename_i cl
    simp only [opD] at h ⊢
    unfold callOp at h ⊢
    split at h
    · exact ⟨0, h⟩
    · obtain ⟨args, h1, h2⟩ := Option.bind_eq_some_iff.1 h
      obtain ⟨x, h3, h4⟩ := Option.bind_eq_some_iff.1 h2
      simp only [h1, h3, Option.bind_some]
      unfold callD at h4 ⊢
      cases hp : prepL st.H (E.modes x.1) (x.2.1 ++ args ++ x.2.2) with
      | none => simp only [hp, reduceCtorEq] at h4
      | some ps =>
        simp only [hp] at h4 ⊢
        split at h4
        · rename_i hcc
          cases hcall : runv E x.1 (ps.map (·.v)) with
          | none => simp only [hcall, reduceCtorEq] at h4
          | some r =>
            obtain ⟨n, hn⟩ := run_of_runv hcall
            refine ⟨n, ?_⟩
            rw [if_pos hcc, hn]
            rw [hcall] at h4
            exact h4
        · cases h4
    · exact ⟨0, h⟩
  · exact ⟨0, h⟩
  · cases h

theorem runO_runv {E : Env} {s : Bool} {ops : List Oper} : ∀ (rest : List Oper) (i : Nat) (st : St) (acc : List D) (r : St × List D), runO E s (runv E) ops rest i st acc = some r →
    ∃ n, runO E s (callF E n) ops rest i st acc = some r
  | [], i, st, acc, r, e => ⟨0, e⟩
  | o :: rest, i, st, acc, r, e => by
    unfold runO at e
    cases hd : stepD E s (runv E) ops i o st with
    | none => simp [hd] at e
    | some d =>
      simp only [hd] at e
      obtain ⟨n, hn⟩ := stepD_runv hd
      obtain ⟨m, hm⟩ := runO_runv rest _ _ _ _ e
      refine ⟨max n m, ?_⟩
      unfold runO
      rw [stepD_mono (callF_mono (Nat.le_max_left n m)) hn]
      exact runO_mono (callF_mono (Nat.le_max_right n m)) _ _ _ _ _ hm

/-- A region whose order is the text's: operation by operation. -/
def WO (E : Env) (s : Bool) (ops : List Oper) : List Oper → Nat → List Item → (St → Prop) → St → Prop
  | [], i, k, Q, st => WL E s k Q { st with nx := st.nx + 64 * i }
  | o :: rest, i, k, Q, st => match stepD E s (runv E) ops i o st with
    | some d => WO E s ops rest (i + 1) k Q (st.app o.dst d)
    | none => False
/-- The same behind one operation. -/
def WD (E : Env) (s : Bool) (ops : List Oper) (rest : List Oper) (i : Nat) (k : List Item) (Q : St → Prop) (dst : Option Nat) (st : St) (d : Option D) : Prop :=
  match d with
  | some d => WO E s ops rest (i + 1) k Q (st.app dst d)
  | none => False

theorem WO_iff {E : Env} {s : Bool} {ops : List Oper} {k : List Item} {Q : St → Prop} : ∀ (rest : List Oper) (i : Nat) (st : St) (acc : List D), WO E s ops rest i k Q st ↔
    ∃ st' ds, runO E s (runv E) ops rest i st acc = some (st', ds) ∧ WL E s k Q st'
  | [], i, st, acc => ⟨fun h => ⟨_, acc, rfl, h⟩, fun ⟨st', ds, h, q⟩ => by
      simp only [runO, Option.some.injEq, Prod.mk.injEq] at h
      rw [← h.1] at q; exact q⟩
  | o :: rest, i, st, acc => by
    unfold WO runO
    cases hd : stepD E s (runv E) ops i o st with
    | none => exact ⟨fun h => h.elim, fun ⟨_, _, h, _⟩ => by cases h⟩
    | some d => exact WO_iff rest (i + 1) _ _

theorem WL_region {E : Env} {s : Bool} {Q : St → Prop} {st : St} {k : List Item} {id : Nat} {ops : List Oper} :
    WL E s (.code (.region id ops.toArray false) :: k) Q st = WO E s ops ops 0 k Q st := by
  apply propext
  rw [WO_iff ops 0 st []]
  constructor
  · rintro ⟨n, r, e, q⟩
    cases n with
    | zero => simp [execL] at e
    | succ n =>
      simp only [execL, List.toList_toArray] at e
      cases hr : runO E s (callF E (n + 1)) ops ops 0 st [] with
      | none => rw [hr] at e; cases e
      | some x =>
        obtain ⟨st', ds⟩ := x
        rw [hr] at e
        simp only [Bool.false_and, Bool.false_eq_true, if_false] at e
        exact ⟨st', ds, runO_mono (callF_runv (n + 1)) _ _ _ _ _ hr, n + 1, r, execL_mono (Ext.refl _) n (n + 1) _ _ _ (by omega) e, q⟩
  · rintro ⟨st', ds, hr, n, r, e, q⟩
    obtain ⟨m, hm⟩ := runO_runv _ _ _ _ _ hr
    refine ⟨max n m + 1, r, ?_, q⟩
    have a := runO_mono (callF_mono (E := E) (Nat.le_trans (Nat.le_max_right n m) (Nat.le_succ _))) _ _ _ _ _ hm
    have c := execL_mono (callF_mono (E := E) (Nat.le_trans (Nat.le_max_left n m) (Nat.le_succ _))) n (max n m) _ _ _ (Nat.le_max_left n m) e
    simp only [execL, List.toList_toArray, a, Bool.false_and, Bool.false_eq_true, if_false, c]

/-- A region that draws its order. -/
def WOd (E : Env) (s : Bool) (ops : List Oper) : List Oper → Nat → List D → List Item → (St → Prop) → St → Prop
  | [], i, acc, k, Q, st => pairsOk E.modes ops acc = true ∧ WL E s k Q { st with nx := st.nx + 64 * i }
  | o :: rest, i, acc, k, Q, st => match stepD E s (runv E) ops i o st with
    | some d => WOd E s ops rest (i + 1) (acc ++ [d]) k Q (st.app o.dst d)
    | none => False
def WDd (E : Env) (s : Bool) (ops : List Oper) (rest : List Oper) (i : Nat) (acc : List D) (k : List Item) (Q : St → Prop) (dst : Option Nat) (st : St) (d : Option D) : Prop :=
  match d with
  | some d => WOd E s ops rest (i + 1) (acc ++ [d]) k Q (st.app dst d)
  | none => False

theorem WOd_iff {E : Env} {s : Bool} {ops : List Oper} {k : List Item} {Q : St → Prop} : ∀ (rest : List Oper) (i : Nat) (st : St) (acc : List D), WOd E s ops rest i acc k Q st ↔
    ∃ st' ds, runO E s (runv E) ops rest i st acc = some (st', ds) ∧ pairsOk E.modes ops ds = true ∧ WL E s k Q st'
  | [], i, st, acc => ⟨fun h => ⟨_, acc, rfl, h⟩, fun ⟨st', ds, h, q⟩ => by
      simp only [runO, Option.some.injEq, Prod.mk.injEq] at h
      rw [← h.1, ← h.2] at q; exact q⟩
  | o :: rest, i, st, acc => by
    unfold WOd runO
    cases hd : stepD E s (runv E) ops i o st with
    | none => exact ⟨fun h => h.elim, fun ⟨_, _, h, _⟩ => by cases h⟩
    | some d => exact WOd_iff rest (i + 1) _ _

theorem WL_regionD {E : Env} {s : Bool} {Q : St → Prop} {st : St} {k : List Item} {id : Nat} {ops : List Oper} :
    WL E s (.code (.region id ops.toArray true) :: k) Q st = (statOk ops = true ∧ WOd E s ops ops 0 [] k Q st) := by
  apply propext
  rw [WOd_iff ops 0 st []]
  constructor
  · rintro ⟨n, r, e, q⟩
    cases n with
    | zero => simp [execL] at e
    | succ n =>
      simp only [execL, List.toList_toArray] at e
      cases hr : runO E s (callF E (n + 1)) ops ops 0 st [] with
      | none => rw [hr] at e; cases e
      | some x =>
        obtain ⟨st', ds⟩ := x
        rw [hr] at e
        simp only [Bool.true_and] at e
        split at e
        · cases e
        · rename_i hc
          have hc' : (statOk ops && pairsOk E.modes ops ds) = true := by simpa using hc
          rw [Bool.and_eq_true] at hc'
          exact ⟨hc'.1, st', ds, runO_mono (callF_runv (n + 1)) _ _ _ _ _ hr, hc'.2, n + 1, r, execL_mono (Ext.refl _) n (n + 1) _ _ _ (by omega) e, q⟩
  · rintro ⟨hs, st', ds, hr, hp, n, r, e, q⟩
    obtain ⟨m, hm⟩ := runO_runv _ _ _ _ _ hr
    refine ⟨max n m + 1, r, ?_, q⟩
    have a := runO_mono (callF_mono (E := E) (Nat.le_trans (Nat.le_max_right n m) (Nat.le_succ _))) _ _ _ _ _ hm
    have c := execL_mono (callF_mono (E := E) (Nat.le_trans (Nat.le_max_left n m) (Nat.le_succ _))) n (max n m) _ _ _ (Nat.le_max_left n m) e
    simp only [execL, List.toList_toArray, a, hs, hp, Bool.and_self, Bool.not_true, Bool.and_false, Bool.false_eq_true, if_false, c]

section
variable {E : Env} {s : Bool} {ops rest : List Oper} {o : Oper} {i : Nat} {k : List Item} {Q : St → Prop} {st : St} {acc : List D} {d : D} {dst : Option Nat}
theorem WO_nil : WO E s ops [] i k Q st = WL E s k Q { st with nx := st.nx + 64 * i } := rfl
theorem WO_cons : WO E s ops (o :: rest) i k Q st = WD E s ops rest i k Q o.dst st (stepD E s (runv E) ops i o st) := rfl
theorem WD_some : WD E s ops rest i k Q dst st (some d) = WO E s ops rest (i + 1) k Q (st.app dst d) := rfl
theorem WOd_nil : WOd E s ops [] i acc k Q st = (pairsOk E.modes ops acc = true ∧ WL E s k Q { st with nx := st.nx + 64 * i }) := rfl
theorem WOd_cons : WOd E s ops (o :: rest) i acc k Q st = WDd E s ops rest i acc k Q o.dst st (stepD E s (runv E) ops i o st) := rfl
theorem WDd_some : WDd E s ops rest i acc k Q dst st (some d) = WOd E s ops rest (i + 1) (acc ++ [d]) k Q (st.app dst d) := rfl
end

/-! ### Loops: an invariant and a measure -/

/-- A loop by what holds at each round's head: 'I j', j what is left. -/
theorem WL_rounds {E : Env} {s : Bool} {Q : St → Prop} {k : List Item} {b : Code} (I : Nat → St → Prop)
    (step : ∀ j st, I j st → (∀ j' st', j' < j → I j' st' → WL E s (.inLoop b :: k) Q st') → WL E s (.code b :: .inLoop b :: k) Q st) :
    ∀ j st, I j st → (hr : E.reb = false := by rfl) → WL E s (.inLoop b :: k) Q st := by
  intro j st h hr
  revert st
  induction j using Nat.strongRecOn with
  | _ j ih =>
    intro st h
    rw [WL_inLoop hr]
    exact step j st h fun j' st' hj h' => ih j' hj st' h'

/-! ### A function, by its text -/
theorem run_of_WL {E : Env} {f : FuncId} {fn : Func} {c : Code} {args : List V} {r : Res} (hp : E.prim f args = none) (hf : E.P.funcs[f]? = some fn) (hb : fn.body = some c)
    (hn : args.length ≤ fn.ntmps ∧ args.all wideA ∧ codeOk fn.ntmps c ∧ fn.name ≠ "runtime.NumGoroutine")
    (h : WL E (E.strict f) [.code c] (Ends E.P (E.strict f) fn args r) (St.enter args)) (hr : E.reb = false := by rfl) : runv E f args = some r := by
  obtain ⟨n, st, e, q⟩ := h
  refine runv_of_run ⟨n + 1, ?_⟩
  unfold callF
  simp only [hp, hf, hb, envAt, St.start, hr, Bool.false_and, Bool.false_eq_true, if_false]
  rw [if_pos hn, e]
  exact q
theorem run_of_WLr {E : Env} {f : FuncId} {fn : Func} {c : Code} {args : List V} {r : Res} (hp : E.prim f args = none) (hf : E.P.funcs[f]? = some fn) (hb : fn.body = some c)
    (hn : args.length ≤ fn.ntmps ∧ args.all wideA ∧ codeOk fn.ntmps c ∧ fn.name ≠ "runtime.NumGoroutine") (hr : E.reb = true) (ho : rebOk args = true)
    (h : WL E (E.strict f) [.code c] (Ends E.P (E.strict f) fn args r) { St.enter args with rs := resM fn }) (hpin : pinned args = false := by rfl) : runv E f args = some r := by
  obtain ⟨n, st, e, q⟩ := h
  refine runv_of_run ⟨n + 1, ?_⟩
  unfold callF
  simp only [hp, hf, hb, envAt, St.start, hr, ho, rsOf, hpin, Bool.true_and, Bool.not_true, Bool.false_eq_true, if_false, if_true]
  rw [if_pos hn, e]
  exact q
theorem run_of_WLp {E : Env} {f : FuncId} {fn : Func} {c : Code} {args : List V} {r : Res} (hp : E.prim f args = none) (hf : E.P.funcs[f]? = some fn) (hb : fn.body = some c)
    (hn : args.length ≤ fn.ntmps ∧ args.all wideA ∧ codeOk fn.ntmps c ∧ fn.name ≠ "runtime.NumGoroutine") (hr : E.reb = true) (ho : rebOk args = true) (hpin : pinned args = true)
    (h : WL E (E.strict f) [.code c] (Ends E.P (E.strict f) fn args r) { St.enter args with rs := resM fn ||| 1 }) : runv E f args = some r := by
  obtain ⟨n, st, e, q⟩ := h
  refine runv_of_run ⟨n + 1, ?_⟩
  unfold callF
  simp only [hp, hf, hb, envAt, St.start, hr, ho, rsOf, hpin, Bool.true_and, Bool.not_true, Bool.false_eq_true, if_false, if_true]
  rw [if_pos hn, e]
  exact q

/-! ### Loops at whose head the objects are numbered anew -/
theorem WL_reb {E : Env} {s : Bool} {Q : St → Prop} {st : St} {k : List Item} {b : Code} (hr : E.reb = true) : WL E s (.inLoop b :: k) Q st = WL E s (.code b :: .inLoop b :: k) Q (canon (maskL (livK st.rs (.inLoop b :: k)).1) st) := by
  rw [WL_head, headSt, hr]; rfl
theorem WL_forX {E : Env} {s : Bool} {Q : St → Prop} {k : List Item} {b : Code} {rs : Nat} {keep : List Nat} (hr : E.reb = true) (hk : maskL (livK rs (.inLoop b :: k)).1 = keep) {α : Type} (T : α → St) (P : α → Prop) (μ : α → Nat)
    (step : ∀ x, P x → (∀ y st', P y → μ y < μ x → st'.rs = rs → canon keep st' = T y → WL E s (.inLoop b :: k) Q st') → WL E s (.code b :: .inLoop b :: k) Q (T x)) :
    ∀ x st, P x → st.rs = rs → canon keep st = T x → WL E s (.inLoop b :: k) Q st := by
  suffices h : ∀ m x, μ x = m → P x → ∀ st, st.rs = rs → canon keep st = T x → WL E s (.inLoop b :: k) Q st from fun x st p h1 h2 => h _ x rfl p st h1 h2
  intro m
  induction m using Nat.strongRecOn with
  | _ m ih =>
    intro x hx p st h1 h2
    rw [WL_reb hr, h1, hk, h2]
    exact step x p fun y st' p' hy h1' h2' => ih (μ y) (by omega) y rfl p' st' h1' h2'
theorem WL_for {E : Env} {s : Bool} {Q : St → Prop} {k : List Item} {b : Code} {rs : Nat} {keep : List Nat} (hr : E.reb = true) (hk : maskL (livK rs (.inLoop b :: k)).1 = keep) (T : Nat → St) (n : Nat)
    (step : ∀ i, i < n → (∀ st', st'.rs = rs → canon keep st' = T (i + 1) → WL E s (.inLoop b :: k) Q st') → WL E s (.code b :: .inLoop b :: k) Q (T i))
    (last : WL E s (.code b :: .inLoop b :: k) Q (T n)) : ∀ i st, i ≤ n → st.rs = rs → canon keep st = T i → WL E s (.inLoop b :: k) Q st := by
  refine WL_forX hr hk T (fun i => i ≤ n) (fun i => n - i) fun i hi next => ?_
  by_cases h : i = n
  · subst h; exact last
  · exact step i (by omega) fun st' h1 h2 => next (i + 1) st' (by omega) (by omega) h1 h2

end Go.Proofs.Ytacfkfdnncgjcaa.Ev
end

section
set_option linter.unusedVariables false
set_option linter.unusedSimpArgs false
namespace Go.Proofs.Ytacfkfdnncgjcaa.Ev
open Go

/-! ### Lists of blocks -/
theorem mem_fm {f : Nat → List Nat} {n b : Nat} : b ∈ (List.range n).flatMap f ↔ ∃ k, k < n ∧ b ∈ f k := by
  simp [List.mem_flatMap, List.mem_range]

theorem nodup_fm {f : Nat → List Nat} : ∀ {n : Nat}, ((List.range n).flatMap f).Nodup ↔ (∀ k, k < n → (f k).Nodup) ∧ ∀ i j, i < j → j < n → ∀ b, b ∈ f i → b ∉ f j
  | 0 => by simp
  | n + 1 => by
    rw [List.range_succ, List.flatMap_append, List.nodup_append, nodup_fm]
    simp only [List.flatMap_cons, List.flatMap_nil, List.append_nil]
    constructor
    · rintro ⟨⟨h1, h2⟩, h3, h4⟩
      refine ⟨fun k hk => ?_, fun i j hij hj b hb hb' => ?_⟩
      · rcases Nat.lt_or_ge k n with h | h
        · exact h1 k h
        · obtain rfl : k = n := by omega
          exact h3
      · rcases Nat.lt_or_ge j n with h | h
        · exact h2 i j hij h b hb hb'
        · obtain rfl : j = n := by omega
          exact h4 b (mem_fm.2 ⟨i, hij, hb⟩) b hb' rfl
    · rintro ⟨h1, h2⟩
      refine ⟨⟨fun k hk => h1 k (by omega), fun i j hij hj => h2 i j hij (by omega)⟩, h1 n (by omega), fun x hx y hy e => ?_⟩
      subst e
      obtain ⟨k, hk, hb⟩ := mem_fm.1 hx
      exact h2 k n hk (by omega) x hb hy

/-! ### Values that lead to nothing of a frame's own; S: blocks that nothing writes -/
theorem cell_of_heap {w w' : World} {a : Addr} (h : w'.heap[a.block]? = w.heap[a.block]?) : w'.cell? a = w.cell? a := by
  simp only [World.cell?, h]

theorem block_add (a : Addr) (k : Nat) : (a.add k).block = a.block := by
  unfold Addr.add
  split <;> rfl

inductive PR (w : World) (S : Nat → Prop) : V → Value → Prop
  | undef : PR w S .undef Go.undef
  | bool (b : Bool) : PR w S (.bool b) (.bool b)
  | int (k : IntKind) (n : Int) : PR w S (.int k n) (.int k n)
  | str (s : ByteArray) : PR w S (.str s) (.string s)
  | nilp : PR w S .nilp (.pointer none)
  | nilf : PR w S .nilf .nilFunc
  | nili : PR w S .nili .nilIface
  | nils (A : Option Addr) : PR w S .nils (.slice A 0 0)
  | list {n c : Nat} {cs : List V} {A : Option Addr} (f : Nat → Value) (hd : cs = [] ∨ ∃ ad, A = some ad ∧ S ad.block ∧ ∀ k, k < cs.length → w.cell? (ad.add k) = some (f k)) (hn : n ≤ c) (hm : c ≤ maxLen)
      (h : ∀ k (hk : k < cs.length), PR w S cs[k] (f k)) (h1 : ∀ k, k < cs.length → (f k).oneCell' = true) : PR w S (.list n cs) (.slice A n c)
  | ref {cs : List V} {off : Nat} {ad : Addr} (f : Nat → Value) (hS : S ad.block) (hd : ∀ k, k < cs.length → w.cell? (ad.add k) = some (f k)) (h : ∀ k (hk : k < cs.length), PR w S cs[k] (f k)) (h1 : ∀ k, k < cs.length → (f k).oneCell' = true) :
      PR w S (.ref cs off) (.pointer (some (ad.add off)))
  | func {g : Fn} {fi ca : List V} {fx cx : Array Value} (h1 : fi.length = fx.size) (h2 : ca.length = cx.size) (hf : ∀ k (hk : k < fi.length), PR w S fi[k] (fx.getD k Go.undef)) (hc : ∀ k (hk : k < ca.length), PR w S ca[k] (cx.getD k Go.undef)) :
      PR w S (.func g fi ca) (.func g fx cx)
  | iface {t : TypeId} {v : V} {x : Value} (h : PR w S v x) : PR w S (.iface t v) (.iface t x)
  | agg {cs : List V} {arr : Array Value} (hl : cs.length = arr.size) (h : ∀ k (hk : k < cs.length), PR w S cs[k] (arr.getD k Go.undef)) (h1 : ∀ k, k < cs.length → (arr.getD k Go.undef).oneCell' = true) : PR w S (.agg cs) (.agg arr)
  | tup {cs : List V} {arr : Array Value} (hl : cs.length = arr.size) (h : ∀ k (hk : k < cs.length), PR w S cs[k] (arr.getD k Go.undef)) : PR w S (.tup cs) (.tuple arr)

theorem PR.mono {w w' : World} {S S' : Nat → Prop} (hS : ∀ b, S b → S' b) (hw : ∀ b, S b → w'.heap[b]? = w.heap[b]?) {v : V} {x : Value} (h : PR w S v x) : PR w' S' v x := by
  induction h with
  | undef => exact .undef
  | bool b => exact .bool b
  | int k n => exact .int k n
  | str s => exact .str s
  | nilp => exact .nilp
  | nilf => exact .nilf
  | nili => exact .nili
  | nils A => exact .nils A
  | list f hd hn hm h h1 ih =>
    refine .list f ?_ hn hm ih h1
    rcases hd with hd | ⟨ad, e, hs, hd⟩
    · exact .inl hd
    · refine .inr ⟨ad, e, hS _ hs, fun k hk => ?_⟩
      rw [← hd k hk]
      exact cell_of_heap (by rw [block_add]; exact hw _ hs)
  | ref f hs hd h h1 ih =>
    refine .ref f (hS _ hs) (fun k hk => ?_) ih h1
    rw [← hd k hk]
    exact cell_of_heap (by rw [block_add]; exact hw _ hs)
  | func h1 h2 hf hc ihf ihc => exact .func h1 h2 ihf ihc
  | iface h ih => exact .iface ih
  | agg hl h h1 ih => exact .agg hl ih h1
  | tup hl h ih => exact .tup hl ih

/-! ### Trees: values that own all that they lead to, but for leaves that are only read -/
def bsz (w : World) (b : Nat) : Nat := match w.heap[b]? with
  | some (.cells c _ _) => c.size
  | _ => 0

def unfz (arr : Array Value) (fr : Nat × Nat) : Prop := ∀ k, k < arr.size → ¬ (fr.1 ≤ k ∧ k < fr.2)

inductive TR (w : World) (S : Nat → Prop) : V → Value → List Nat → Prop
  | pr {v : V} {x : Value} (h : PR w S v x) : TR w S v x []
  | unil (sz : Nat) (A : Option Addr) : TR w S (.uniq sz 0 []) (.slice A 0 0) []
  | uniq {sz n c b : Nat} {cs : List V} {arr : Array Value} {e : TypeId} {fr : Nat × Nat} (fp : Nat → List Nat) (hb : w.heap[b]? = some (.cells arr e fr)) (hz : unfz arr fr) (hl : cs.length = n * sz) (hc : c * sz ≤ arr.size) (hn : n ≤ c) (hm : c ≤ maxLen) (hc1 : 1 ≤ c)
      (h : ∀ k (hk : k < cs.length), TR w S cs[k] (arr.getD k Go.undef) (fp k)) (h1 : ∀ k, k < cs.length → (arr.getD k Go.undef).oneCell' = true) : TR w S (.uniq sz n cs) (.slice (some ⟨b, 0, none⟩) n c) (b :: (List.range cs.length).flatMap fp)
  | uptr {b : Nat} {cs : List V} {arr : Array Value} {e : TypeId} {fr : Nat × Nat} (fp : Nat → List Nat) (hb : w.heap[b]? = some (.cells arr e fr)) (hz : unfz arr fr) (hl : cs.length ≤ arr.size)
      (h : ∀ k (hk : k < cs.length), TR w S cs[k] (arr.getD k Go.undef) (fp k)) (h1 : ∀ k, k < cs.length → (arr.getD k Go.undef).oneCell' = true) : TR w S (.uptr cs) (.pointer (some ⟨b, 0, none⟩)) (b :: (List.range cs.length).flatMap fp)
  | agg {cs : List V} {arr : Array Value} (fp : Nat → List Nat) (hl : cs.length = arr.size) (h : ∀ k (hk : k < cs.length), TR w S cs[k] (arr.getD k Go.undef) (fp k)) (h1 : ∀ k, k < cs.length → (arr.getD k Go.undef).oneCell' = true) : TR w S (.agg cs) (.agg arr) ((List.range cs.length).flatMap fp)
  | tup {cs : List V} {arr : Array Value} (fp : Nat → List Nat) (hl : cs.length = arr.size) (h : ∀ k (hk : k < cs.length), TR w S cs[k] (arr.getD k Go.undef) (fp k)) : TR w S (.tup cs) (.tuple arr) ((List.range cs.length).flatMap fp)

theorem TR.mono {w w' : World} {S S' : Nat → Prop} {v : V} {x : Value} {fp : List Nat} (h : TR w S v x fp) (hS : ∀ b, S b → S' b) (hwS : ∀ b, S b → w'.heap[b]? = w.heap[b]?) (hw : ∀ b, b ∈ fp → w'.heap[b]? = w.heap[b]?) : TR w' S' v x fp := by
  induction h with
  | pr h => exact .pr (h.mono hS hwS)
  | unil sz A => exact .unil sz A
  | uniq fp hb hz hl hc hn hm hc1 h h1 ih =>
    refine .uniq fp ((hw _ (List.mem_cons_self ..)).trans hb) hz hl hc hn hm hc1 (fun k hk => ih k hk fun b hb' => hw b (List.mem_cons_of_mem _ (mem_fm.2 ⟨k, hk, hb'⟩))) h1
  | uptr fp hb hz hl h h1 ih =>
    refine .uptr fp ((hw _ (List.mem_cons_self ..)).trans hb) hz hl (fun k hk => ih k hk fun b hb' => hw b (List.mem_cons_of_mem _ (mem_fm.2 ⟨k, hk, hb'⟩))) h1
  | agg fp hl h h1 ih => exact .agg fp hl (fun k hk => ih k hk fun b hb' => hw b (mem_fm.2 ⟨k, hk, hb'⟩)) h1
  | tup fp hl h ih => exact .tup fp hl fun k hk => ih k hk fun b hb' => hw b (mem_fm.2 ⟨k, hk, hb'⟩)

theorem TR.lt {w : World} {S : Nat → Prop} {v : V} {x : Value} {fp : List Nat} (h : TR w S v x fp) : ∀ b, b ∈ fp → b < w.heap.size := by
  induction h with
  | uniq fp hb hz hl hc hn hm hc1 h h1 ih =>
    intro b hb'
    rcases List.mem_cons.1 hb' with rfl | hb'
    · exact (Array.getElem?_eq_some_iff.1 hb).1
    · obtain ⟨k, hk, hk'⟩ := mem_fm.1 hb'; exact ih k hk b hk'
  | uptr fp hb hz hl h h1 ih =>
    intro b hb'
    rcases List.mem_cons.1 hb' with rfl | hb'
    · exact (Array.getElem?_eq_some_iff.1 hb).1
    · obtain ⟨k, hk, hk'⟩ := mem_fm.1 hb'; exact ih k hk b hk'
  | agg fp hl h h1 ih => intro b hb'; obtain ⟨k, hk, hk'⟩ := mem_fm.1 hb'; exact ih k hk b hk'
  | tup fp hl h ih => intro b hb'; obtain ⟨k, hk, hk'⟩ := mem_fm.1 hb'; exact ih k hk b hk'
  | _ => intro b hb'; cases hb'

/-! ### Values of a frame; J: the blocks of the frame's own objects -/
inductive VR (w : World) (S : Nat → Prop) (J : Nat → Option (Option Nat)) (H : Nat → Option Ob) : V → Value → Prop
  | any (x : Value) : VR w S J H .any x
  | pure {v : V} {x : Value} (h : PR w S v x) : VR w S J H v x
  | sl {id ver off len c : Nat} {A : Option Addr} (hj : J id ≠ none) (hlc : len ≤ c) (hcm : c ≤ maxLen) (hA : len = 0 ∨ ∃ a, A = some a) (h : ∀ ob, H id = some ob → ver ≤ ob.ver ∧ (ob.ver = ver → (c = 0 ∧ len = 0 ∧ (off = 0 → J id = some none)) ∨ 1 ≤ c ∧ ∃ b, J id = some (some b) ∧ A = some ⟨b, off, none⟩ ∧ off + c * ob.sz ≤ bsz w b)) :
      VR w S J H (.sl id ver off len) (.slice A len c)
  | ptr {id ver off : Nat} {a : Addr} (hj : J id ≠ none) (h : ∀ ob, H id = some ob → ver ≤ ob.ver ∧ (ob.ver = ver → ∃ b, J id = some (some b) ∧ a = ⟨b, off, none⟩)) : VR w S J H (.ptr id ver off) (.pointer (some a))
  | func {g : Fn} {fi ca : List V} {fx cx : Array Value} (h1 : fi.length = fx.size) (h2 : ca.length = cx.size) (hf : ∀ k (hk : k < fi.length), VR w S J H fi[k] (fx.getD k Go.undef)) (hc : ∀ k (hk : k < ca.length), VR w S J H ca[k] (cx.getD k Go.undef)) :
      VR w S J H (.func g fi ca) (.func g fx cx)
  | iface {t : TypeId} {v : V} {x : Value} (h : VR w S J H v x) : VR w S J H (.iface t v) (.iface t x)
  | agg {cs : List V} {arr : Array Value} (hl : cs.length = arr.size) (h : ∀ k (hk : k < cs.length), VR w S J H cs[k] (arr.getD k Go.undef)) (h1 : ∀ k, k < cs.length → (arr.getD k Go.undef).oneCell' = true) : VR w S J H (.agg cs) (.agg arr)
  | tup {cs : List V} {arr : Array Value} (hl : cs.length = arr.size) (h : ∀ k (hk : k < cs.length), VR w S J H cs[k] (arr.getD k Go.undef)) : VR w S J H (.tup cs) (.tuple arr)

/-- What has been said of values holds on. -/
structure Pers (w : World) (S : Nat → Prop) (J : Nat → Option (Option Nat)) (H : Nat → Option Ob) (w' : World) (S' : Nat → Prop) (J' : Nat → Option (Option Nat)) (H' : Nat → Option Ob) : Prop where
  hS : ∀ b, S b → S' b
  hw : ∀ b, S b → w'.heap[b]? = w.heap[b]?
  hJ : ∀ id, J id ≠ none → J' id ≠ none
  hH : ∀ id ob', J id ≠ none → H' id = some ob' → ∃ ob, H id = some ob ∧ (ob.ver < ob'.ver ∨ (ob.ver = ob'.ver ∧ ob.sz = ob'.sz ∧ J' id = J id ∧ ∀ b, J id = some (some b) → bsz w' b = bsz w b))

theorem Pers.refl (w : World) (S : Nat → Prop) (J : Nat → Option (Option Nat)) (H : Nat → Option Ob) : Pers w S J H w S J H :=
  ⟨fun _ h => h, fun _ _ => rfl, fun _ h => h, fun _ ob' _ h => ⟨ob', h, .inr ⟨rfl, rfl, rfl, fun _ _ => rfl⟩⟩⟩

theorem VR.mono {w w' : World} {S S' : Nat → Prop} {J J' : Nat → Option (Option Nat)} {H H' : Nat → Option Ob} (p : Pers w S J H w' S' J' H') {v : V} {x : Value} (h : VR w S J H v x) : VR w' S' J' H' v x := by
  induction h with
  | any x => exact .any x
  | pure h => exact .pure (h.mono p.hS p.hw)
  | sl hj hlc hcm hA h =>
    refine .sl (p.hJ _ hj) hlc hcm hA fun ob' hob' => ?_
    obtain ⟨ob, hob, hv⟩ := p.hH _ ob' hj hob'
    obtain ⟨hle, hc⟩ := h ob hob
    rcases hv with hv | ⟨hv, hsz, hjj, hbs⟩
    · exact ⟨by omega, fun e => by omega⟩
    · refine ⟨by omega, fun e => ?_⟩
      rcases hc (by omega) with hz | ⟨hc1, b, hb, hA, hfit⟩
      · exact .inl ⟨hz.1, hz.2.1, fun h0 => by rw [hjj]; exact hz.2.2 h0⟩
      · exact .inr ⟨hc1, b, by rw [hjj]; exact hb, hA, by rw [← hsz, hbs b hb]; exact hfit⟩
  | ptr hj h =>
    refine .ptr (p.hJ _ hj) fun ob' hob' => ?_
    obtain ⟨ob, hob, hv⟩ := p.hH _ ob' hj hob'
    obtain ⟨hle, hc⟩ := h ob hob
    rcases hv with hv | ⟨hv, hsz, hjj, hbs⟩
    · exact ⟨by omega, fun e => by omega⟩
    · refine ⟨by omega, fun e => ?_⟩
      obtain ⟨b, hb, hA⟩ := hc (by omega)
      exact ⟨b, by rw [hjj]; exact hb, hA⟩
  | func h1 h2 hf hc ihf ihc => exact .func h1 h2 ihf ihc
  | iface h ih => exact .iface ih
  | agg hl h h1 ih => exact .agg hl ih h1
  | tup hl h ih => exact .tup hl ih

/-- A cell of an object: a value, or a tree that the cell owns. -/
def CR (w : World) (S : Nat → Prop) (J : Nat → Option (Option Nat)) (H : Nat → Option Ob) (v : V) (x : Value) (fp : List Nat) : Prop :=
  (VR w S J H v x ∧ fp = []) ∨ TR w S v x fp

theorem CR.mono {w w' : World} {S S' : Nat → Prop} {J J' : Nat → Option (Option Nat)} {H H' : Nat → Option Ob} (p : Pers w S J H w' S' J' H') {v : V} {x : Value} {fp : List Nat} (h : CR w S J H v x fp)
    (hw : ∀ b, b ∈ fp → w'.heap[b]? = w.heap[b]?) : CR w' S' J' H' v x fp := by
  rcases h with ⟨h, e⟩ | h
  · exact .inl ⟨h.mono p, e⟩
  · exact .inr (h.mono p.hS p.hw hw)

/-- An object. -/
def OR (w : World) (S : Nat → Prop) (J : Nat → Option (Option Nat)) (H : Nat → Option Ob) (ob : Ob) (jo : Option Nat) (F : List Nat) : Prop :=
  match jo with
  | none => ob.cells = [] ∧ F = []
  | some b => ∃ (arr : Array Value) (e : TypeId) (fr : Nat × Nat) (fp : Nat → List Nat), w.heap[b]? = some (.cells arr e fr) ∧ unfz arr fr ∧ ob.cells.length ≤ arr.size ∧
      (∀ k (hk : k < ob.cells.length), CR w S J H ob.cells[k] (arr.getD k Go.undef) (fp k)) ∧ (∀ k, k < ob.cells.length → (arr.getD k Go.undef).oneCell' = true) ∧ F = b :: (List.range ob.cells.length).flatMap fp

theorem OR.mono {w w' : World} {S S' : Nat → Prop} {J J' : Nat → Option (Option Nat)} {H H' : Nat → Option Ob} (p : Pers w S J H w' S' J' H') {ob : Ob} {jo : Option Nat} {F : List Nat} (h : OR w S J H ob jo F)
    (hw : ∀ b, b ∈ F → w'.heap[b]? = w.heap[b]?) : OR w' S' J' H' ob jo F := by
  cases jo with
  | none => exact h
  | some b =>
    obtain ⟨arr, e, fr, fp, hb, hz, hl, hc, h1, rfl⟩ := h
    exact ⟨arr, e, fr, fp, (hw b (List.mem_cons_self ..)).trans hb, hz, hl, fun k hk => (hc k hk).mono p fun x hx => hw x (List.mem_cons_of_mem _ (mem_fm.2 ⟨k, hk, hx⟩)), h1, rfl⟩

/-! ### A frame's state -/
structure Gh where
  J : Nat → Option (Option Nat)
  S : Nat → Prop
  F : Nat → List Nat

/-- What was there when the call began: the world, the blocks that nothing writes, those that were handed over. -/
structure Beg where
  w : World
  S : Nat → Prop
  fp : List Nat
  nt : Nat
  strict : Bool
  keep : List (V × Value)

/-- The memory of a frame. -/
structure MR (B : Beg) (H : Nat → Option Ob) (w : World) (g : Gh) : Prop where
  hj : ∀ id ob, H id = some ob → g.J id ≠ none
  ob : ∀ id ob jo, H id = some ob → g.J id = some jo → OR w g.S g.J H ob jo (g.F id)
  nd : ∀ id ob, H id = some ob → (g.F id).Nodup
  dj : ∀ id id' ob ob', id ≠ id' → H id = some ob → H id' = some ob' → ∀ b, b ∈ g.F id → b ∉ g.F id'
  mu : ∀ id ob b, H id = some ob → 1 ≤ ob.lv → g.J id = some (some b) → ¬ g.S b
  ms : B.strict = true → ∀ id ob, H id = some ob → 1 ≤ ob.lv → ∀ b, b ∈ g.F id → ¬ g.S b
  new : ∀ id ob, H id = some ob → ∀ b, b ∈ g.F id → b ∈ B.fp ∨ B.w.heap.size ≤ b
  lt : ∀ b, g.S b → b < w.heap.size
  s0 : ∀ b, B.S b → g.S b
  s1 : ∀ b, g.S b → B.S b ∨ B.w.heap.size ≤ b ∨ b ∈ B.fp
  os : w.os = B.w.os
  tape : w.tape = B.w.tape
  output : w.output = B.w.output
  size : B.w.heap.size ≤ w.heap.size
  fm : ∀ b, b < B.w.heap.size → b ∉ B.fp → w.heap[b]? = B.w.heap[b]?
  bs : ∀ b, b < B.w.heap.size → bsz w b = bsz B.w b

structure SR (B : Beg) (fr : Nat → V) (H : Nat → Option Ob) (hi : Nat → Prop) (a : Act) (w : World) (g : Gh) : Prop where
  df : a.defers = []
  sz : a.tmps.size = B.nt
  sl : ∀ t, VR w g.S g.J H (fr t) (a.tmps.getD t Go.undef)
  ids : ∀ id, g.J id ≠ none → hi id
  m : MR B H w g
  kp : ∀ p, p ∈ B.keep → VR w g.S g.J H p.1 p.2

theorem OR.lt {w : World} {S : Nat → Prop} {J : Nat → Option (Option Nat)} {H : Nat → Option Ob} {ob : Ob} {jo : Option Nat} {F : List Nat} (h : OR w S J H ob jo F) : ∀ b, b ∈ F → b < w.heap.size := by
  intro x hx
  cases jo with
  | none => rw [h.2] at hx; cases hx
  | some b =>
    obtain ⟨arr, e, fr, fp, hb, hz, hl, hc, h1, rfl⟩ := h
    rcases List.mem_cons.1 hx with rfl | hx
    · exact (Array.getElem?_eq_some_iff.1 hb).1
    · obtain ⟨k, hk, hk'⟩ := mem_fm.1 hx
      rcases hc k hk with ⟨_, e⟩ | h
      · rw [e] at hk'; cases hk'
      · exact h.lt x hk'

theorem MR.flt {B : Beg} {H : Nat → Option Ob} {w : World} {g : Gh} (h : MR B H w g) {id : Nat} {ob : Ob} (e : H id = some ob) : ∀ b, b ∈ g.F id → b < w.heap.size := by
  cases hj : g.J id with
  | none => exact absurd hj (h.hj id ob e)
  | some jo => exact (h.ob id ob jo e hj).lt

theorem MR.own {B : Beg} {H : Nat → Option Ob} {w : World} {g : Gh} (h : MR B H w g) {id b : Nat} {ob : Ob} (e : H id = some ob) (hj : g.J id = some (some b)) : b ∈ g.F id := by
  obtain ⟨arr, e', fr, fp, hb, hz, hl, hc, h1, hF⟩ := h.ob id ob _ e hj
  rw [hF]
  exact List.mem_cons_self ..

/-- What changes from one state of the memory to the next: 'C' holds of the objects that are not as they were. -/
structure Chg (B : Beg) (H : Nat → Option Ob) (w : World) (g : Gh) (C : Nat → Prop) (H' : Nat → Option Ob) (w' : World) (g' : Gh) : Prop where
  same : ∀ id, ¬ C id → H' id = H id ∧ g'.J id = g.J id ∧ g'.F id = g.F id
  os : w'.os = w.os
  tape : w'.tape = w.tape
  output : w'.output = w.output
  size : w.heap.size ≤ w'.heap.size
  bs : ∀ b, b < w.heap.size → bsz w' b = bsz w b
  blk : ∀ b, b < w.heap.size → w'.heap[b]? = w.heap[b]? ∨ ∃ id ob, C id ∧ H id = some ob ∧ b ∈ g.F id ∧ ¬ g.S b
  hS : ∀ b, g.S b → g'.S b
  hlt : ∀ b, g'.S b → b < w'.heap.size
  hs1 : ∀ b, g'.S b → B.S b ∨ B.w.heap.size ≤ b ∨ b ∈ B.fp
  hJ : ∀ id, C id → g.J id ≠ none → g'.J id ≠ none
  pers : ∀ id ob', C id → g.J id ≠ none → H' id = some ob' → ∃ ob, H id = some ob ∧ (ob.ver < ob'.ver ∨ (ob.ver = ob'.ver ∧ ob.sz = ob'.sz ∧ g'.J id = g.J id))
  mu : ∀ id ob b, ¬ C id → H id = some ob → 1 ≤ ob.lv → g.J id = some (some b) → ¬ g'.S b
  ms : B.strict = true → ∀ id ob, ¬ C id → H id = some ob → 1 ≤ ob.lv → ∀ b, b ∈ g.F id → ¬ g'.S b

section
variable {B : Beg} {H H' : Nat → Option Ob} {w w' : World} {g g' : Gh} {C : Nat → Prop}

theorem Chg.kept (c : Chg B H w g C H' w' g') (m : MR B H w g) {id : Nat} {ob : Ob} (hn : ¬ C id) (e : H id = some ob) : ∀ b, b ∈ g.F id → w'.heap[b]? = w.heap[b]? := by
  intro b hb
  rcases c.blk b (m.flt e b hb) with h | ⟨id', ob', hc, he, hl, hj⟩
  · exact h
  · exact absurd hb (m.dj id' id ob' ob (fun e' => hn (e' ▸ hc)) he e b hl)

theorem Chg.toPers (c : Chg B H w g C H' w' g') (m : MR B H w g) : Pers w g.S g.J H w' g'.S g'.J H' where
  hS := c.hS
  hw := fun b hb => by
    rcases c.blk b (m.lt b hb) with h | ⟨id', ob', hc, he, hl, hj⟩
    · exact h
    · exact absurd hb hj
  hJ := fun id hid => by
    by_cases hc : C id
    · exact c.hJ id hc hid
    · rw [(c.same id hc).2.1]; exact hid
  hH := fun id ob' hid he => by
    by_cases hc : C id
    · obtain ⟨ob, h1, h2⟩ := c.pers id ob' hc hid he
      refine ⟨ob, h1, h2.imp (fun h => h) fun h => ⟨h.1, h.2.1, h.2.2, fun b hb => c.bs b (m.flt h1 b (m.own h1 hb))⟩⟩
    · obtain ⟨h1, h2, h3⟩ := c.same id hc
      rw [h1] at he
      refine ⟨ob', he, .inr ⟨rfl, rfl, h2, fun b hb => ?_⟩⟩
      have := c.kept m hc he b (m.own he hb)
      simp only [bsz, this]

/-- The next state of the memory. -/
theorem Chg.next (c : Chg B H w g C H' w' g') (m : MR B H w g)
    (obj : ∀ id ob', C id → H' id = some ob' → ∃ jo, g'.J id = some jo ∧ OR w' g'.S g'.J H' ob' jo (g'.F id) ∧ (g'.F id).Nodup ∧
      (1 ≤ ob'.lv → (∀ b, jo = some b → ¬ g'.S b) ∧ (B.strict = true → ∀ b, b ∈ g'.F id → ¬ g'.S b)) ∧ (∀ b, b ∈ g'.F id → b ∈ B.fp ∨ B.w.heap.size ≤ b) ∧
      (∀ id2 ob2, id2 ≠ id → H' id2 = some ob2 → ∀ b, b ∈ g'.F id → b ∉ g'.F id2)) : MR B H' w' g' := by
  have p := c.toPers m
  have hsame := c.same
  constructor
  · intro id ob e
    by_cases hc : C id
    · obtain ⟨jo, hj, _⟩ := obj id ob hc e
      rw [hj]; simp
    · obtain ⟨h1, h2, _⟩ := hsame id hc
      rw [h2]; rw [h1] at e; exact m.hj id ob e
  · intro id ob jo e hj
    by_cases hc : C id
    · obtain ⟨jo', hj', hO, _⟩ := obj id ob hc e
      rw [hj'] at hj
      injection hj with hj
      rw [← hj]; exact hO
    · obtain ⟨h1, h2, h3⟩ := hsame id hc
      rw [h1] at e; rw [h2] at hj; rw [h3]
      exact (m.ob id ob jo e hj).mono p (c.kept m hc e)
  · intro id ob e
    by_cases hc : C id
    · obtain ⟨_, _, _, hn, _⟩ := obj id ob hc e; exact hn
    · obtain ⟨h1, _, h3⟩ := hsame id hc
      rw [h1] at e; rw [h3]; exact m.nd id ob e
  · intro id id' ob ob' hne e e' b hb hb'
    by_cases hc : C id
    · obtain ⟨_, _, _, _, _, _, hd⟩ := obj id ob hc e
      exact hd id' ob' (Ne.symm hne) e' b hb hb'
    · by_cases hc' : C id'
      · obtain ⟨_, _, _, _, _, _, hd⟩ := obj id' ob' hc' e'
        exact hd id ob hne e b hb' hb
      · obtain ⟨h1, _, h3⟩ := hsame id hc
        obtain ⟨h1', _, h3'⟩ := hsame id' hc'
        rw [h1] at e; rw [h3] at hb; rw [h1'] at e'; rw [h3'] at hb'
        exact m.dj id id' ob ob' hne e e' b hb hb'
  · intro id ob b e hl hj
    by_cases hc : C id
    · obtain ⟨jo, hj', _, _, hm, _⟩ := obj id ob hc e
      rw [hj'] at hj
      injection hj with hj
      exact (hm hl).1 b hj
    · obtain ⟨h1, h2, _⟩ := hsame id hc
      rw [h1] at e; rw [h2] at hj
      exact c.mu id ob b hc e hl hj
  · intro hs id ob e hl b hb
    by_cases hc : C id
    · obtain ⟨_, _, _, _, hm, _⟩ := obj id ob hc e
      exact (hm hl).2 hs b hb
    · obtain ⟨h1, _, h3⟩ := hsame id hc
      rw [h1] at e; rw [h3] at hb
      exact c.ms hs id ob hc e hl b hb
  · intro id ob e b hb
    by_cases hc : C id
    · obtain ⟨_, _, _, _, _, hn, _⟩ := obj id ob hc e; exact hn b hb
    · obtain ⟨h1, _, h3⟩ := hsame id hc
      rw [h1] at e; rw [h3] at hb; exact m.new id ob e b hb
  · exact c.hlt
  · exact fun b hb => c.hS b (m.s0 b hb)
  · exact c.hs1
  · exact c.os.trans m.os
  · exact c.tape.trans m.tape
  · exact c.output.trans m.output
  · exact Nat.le_trans m.size c.size
  · intro b hb hf
    rcases c.blk b (Nat.lt_of_lt_of_le hb m.size) with h | ⟨id, ob, hc, e, hl, hj⟩
    · rw [h]; exact m.fm b hb hf
    · rcases m.new id ob e b hl with h | h
      · exact absurd h hf
      · omega
  · exact fun b hb => (c.bs b (Nat.lt_of_lt_of_le hb m.size)).trans (m.bs b hb)
end

end Go.Proofs.Ytacfkfdnncgjcaa.Ev
end

section
set_option linter.unusedVariables false
set_option linter.unusedSimpArgs false
namespace Go.Proofs.Ytacfkfdnncgjcaa.Ev
open Go

theorem VR.noId {w : World} {S : Nat → Prop} {J J' : Nat → Option (Option Nat)} {H H' : Nat → Option Ob} {v : V} {x : Value} (h : VR w S J H v x) : ∀ {k : Nat}, Ev.noId k v = true → VR w S J' H' v x := by
  induction h with
  | any x => exact fun _ => .any x
  | pure h => exact fun _ => .pure h
  | sl hj hlc hcm hA h => intro k e; cases k <;> simp [Ev.noId] at e
  | ptr hj h => intro k e; cases k <;> simp [Ev.noId] at e
  | func h1 h2 hf hc ihf ihc =>
    intro k e
    cases k with
    | zero => simp [Ev.noId] at e
    | succ k =>
      simp only [Ev.noId, Bool.and_eq_true, List.all_eq_true] at e
      exact .func h1 h2 (fun j hj => ihf j hj (e.1 _ (List.getElem_mem hj))) (fun j hj => ihc j hj (e.2 _ (List.getElem_mem hj)))
  | iface h ih =>
    intro k e
    cases k with
    | zero => simp [Ev.noId] at e
    | succ k => simp only [Ev.noId] at e; exact .iface (ih e)
  | agg hl h h1 ih =>
    intro k e
    cases k with
    | zero => simp [Ev.noId] at e
    | succ k => simp only [Ev.noId, List.all_eq_true] at e; exact .agg hl (fun j hj => ih j hj (e _ (List.getElem_mem hj))) h1
  | tup hl h ih =>
    intro k e
    cases k with
    | zero => simp [Ev.noId] at e
    | succ k => simp only [Ev.noId, List.all_eq_true] at e; exact .tup hl (fun j hj => ih j hj (e _ (List.getElem_mem hj)))

theorem posN_spec : ∀ {xs : List Nat} {id i j : Nat}, posN xs id i = some j → ∃ q, j = i + q ∧ q < xs.length ∧ xs.getD q 0 = id
  | [], id, i, j, h => by cases h
  | x :: xs, id, i, j, h => by
    unfold posN at h
    split at h
    · rename_i e
      injection h with h
      exact ⟨0, by omega, by simp, by simp [e]⟩
    · obtain ⟨q, h1, h2, h3⟩ := posN_spec h
      exact ⟨q + 1, by omega, by simp; omega, by simpa using h3⟩

section
variable (ord : List Nat) (J : Nat → Option (Option Nat)) (H : Nat → Option Ob)
def renJ : Nat → Option (Option Nat) := fun j => if j < ord.length then J (ord.getD j 0) else none
def renH : Nat → Option Ob := fun j => (ord.map fun id => (H id).map (renO ord H)).getD j none
end

section
variable {ord : List Nat} {J : Nat → Option (Option Nat)} {H : Nat → Option Ob} {w : World} {S : Nat → Prop}

theorem renH_some {j : Nat} {ob' : Ob} (h : renH ord H j = some ob') : j < ord.length ∧ ∃ ob, H (ord.getD j 0) = some ob ∧ ob' = renO ord H ob := by
  unfold renH at h
  by_cases hj : j < ord.length
  · refine ⟨hj, ?_⟩
    simp only [List.getD_eq_getElem?_getD, List.getElem?_map, List.getElem?_eq_getElem hj, Option.map_some, Option.getD_some] at h ⊢
    obtain ⟨ob, h1, h2⟩ := Option.map_eq_some_iff.1 h
    exact ⟨ob, h1, h2.symm⟩
  · rw [List.getD_eq_getElem?_getD, List.getElem?_eq_none (by simpa using hj)] at h
    cases h

theorem PR.renV {v : V} {x : Value} (h : PR w S v x) : ∀ k, VR w S (renJ ord J) (renH ord H) (Ev.renV ord H k v) x := by
  induction h with
  | undef => intro k; cases k <;> exact .pure .undef
  | bool b => intro k; cases k <;> exact .pure (.bool b)
  | int kd n => intro k; cases k <;> exact .pure (.int kd n)
  | str s => intro k; cases k <;> exact .pure (.str s)
  | nilp => intro k; cases k <;> exact .pure .nilp
  | nilf => intro k; cases k <;> exact .pure .nilf
  | nili => intro k; cases k <;> exact .pure .nili
  | nils A => intro k; cases k <;> exact .pure (.nils A)
  | list f hd hn hm h h1 ih =>
    have := PR.list f hd hn hm h h1
    intro k; cases k <;> exact .pure this
  | ref f hs hd h h1 ih =>
    rename_i cs off ad
    have := PR.ref (off := off) f hs hd h h1
    intro k; cases k <;> exact .pure this
  | func h1 h2 hf hc ihf ihc =>
    intro k
    cases k with
    | zero => exact .any _
    | succ k =>
      refine .func (by simpa using h1) (by simpa using h2) (fun j hj => ?_) (fun j hj => ?_)
      · simp only [List.length_map] at hj; simp only [List.getElem_map]; exact ihf j hj k
      · simp only [List.length_map] at hj; simp only [List.getElem_map]; exact ihc j hj k
  | iface h ih =>
    intro k
    cases k with
    | zero => exact .any _
    | succ k => exact .iface (ih k)
  | agg hl h h1 ih =>
    intro k
    cases k with
    | zero => exact .any _
    | succ k =>
      refine .agg (by simpa using hl) (fun j hj => ?_) (fun j hj => h1 j (by simpa using hj))
      simp only [List.length_map] at hj; simp only [List.getElem_map]; exact ih j hj k
  | tup hl h ih =>
    intro k
    cases k with
    | zero => exact .any _
    | succ k =>
      refine .tup (by simpa using hl) (fun j hj => ?_)
      simp only [List.length_map] at hj; simp only [List.getElem_map]; exact ih j hj k

theorem VR.renV {v : V} {x : Value} (h : VR w S J H v x) : ∀ k, VR w S (renJ ord J) (renH ord H) (Ev.renV ord H k v) x := by
  induction h with
  | any x => intro k; cases k <;> exact .any x
  | pure h => exact fun k => h.renV k
  | sl hj hlc hcm hA h =>
    rename_i id ver off len c A
    intro k
    have e : Ev.renV ord H k (.sl id ver off len) = renI ord H id ver fun j => .sl j 0 off len := by cases k <;> rfl
    rw [e]
    unfold renI
    split
    · rename_i ob j hob hpos
      split
      · rename_i hver
        obtain ⟨q, h1, h2, h3⟩ := posN_spec hpos
        obtain rfl : j = q := by omega
        have hJ : renJ ord J j = J id := by unfold renJ; rw [if_pos h2, h3]
        refine .sl (by rw [hJ]; exact hj) hlc hcm hA fun ob' hob' => ?_
        obtain ⟨_, ob1, ho1, rfl⟩ := renH_some hob'
        rw [h3, hob] at ho1
        injection ho1 with ho1
        subst ho1
        refine ⟨Nat.zero_le _, fun _ => ?_⟩
        rw [hJ]
        exact (h ob hob).2 hver
      · exact .any _
    · exact .any _
  | ptr hj h =>
    rename_i id ver off a
    intro k
    have e : Ev.renV ord H k (.ptr id ver off) = renI ord H id ver fun j => .ptr j 0 off := by cases k <;> rfl
    rw [e]
    unfold renI
    split
    · rename_i ob j hob hpos
      split
      · rename_i hver
        obtain ⟨q, h1, h2, h3⟩ := posN_spec hpos
        obtain rfl : j = q := by omega
        have hJ : renJ ord J j = J id := by unfold renJ; rw [if_pos h2, h3]
        refine .ptr (by rw [hJ]; exact hj) fun ob' hob' => ?_
        obtain ⟨_, ob1, ho1, rfl⟩ := renH_some hob'
        rw [h3, hob] at ho1
        injection ho1 with ho1
        subst ho1
        refine ⟨Nat.zero_le _, fun _ => ?_⟩
        rw [hJ]
        exact (h ob hob).2 hver
      · exact .any _
    · exact .any _
  | func h1 h2 hf hc ihf ihc =>
    intro k
    cases k with
    | zero => exact .any _
    | succ k =>
      refine .func (by simpa using h1) (by simpa using h2) (fun j hj => ?_) (fun j hj => ?_)
      · simp only [List.length_map] at hj; simp only [List.getElem_map]; exact ihf j hj k
      · simp only [List.length_map] at hj; simp only [List.getElem_map]; exact ihc j hj k
  | iface h ih =>
    intro k
    cases k with
    | zero => exact .any _
    | succ k => exact .iface (ih k)
  | agg hl h h1 ih =>
    intro k
    cases k with
    | zero => exact .any _
    | succ k =>
      refine .agg (by simpa using hl) (fun j hj => ?_) (fun j hj => h1 j (by simpa using hj))
      simp only [List.length_map] at hj; simp only [List.getElem_map]; exact ih j hj k
  | tup hl h ih =>
    intro k
    cases k with
    | zero => exact .any _
    | succ k =>
      refine .tup (by simpa using hl) (fun j hj => ?_)
      simp only [List.length_map] at hj; simp only [List.getElem_map]; exact ih j hj k

theorem CR.renC {v : V} {x : Value} {fp : List Nat} (h : CR w S J H v x fp) : CR w S (renJ ord J) (renH ord H) (Ev.renC ord H v) x (if noId depth v then fp else []) := by
  unfold Ev.renC
  split
  · rename_i hn
    rcases h with ⟨h, e⟩ | h
    · exact .inl ⟨h.noId hn, e⟩
    · exact .inr h
  · rename_i hn
    split
    · rcases h with ⟨h, e⟩ | h
      · exact .inl ⟨h.renV depth, rfl⟩
      · cases h with | pr h => cases h
    · rcases h with ⟨h, e⟩ | h
      · exact .inl ⟨h.renV depth, rfl⟩
      · cases h with | pr h => cases h
    · exact .inl ⟨.any _, rfl⟩

theorem OR.ren {ob : Ob} {jo : Option Nat} {F : List Nat} (h : OR w S J H ob jo F) (hn : F.Nodup) : ∃ F', OR w S (renJ ord J) (renH ord H) (renO ord H ob) jo F' ∧ F'.Nodup ∧ ∀ b, b ∈ F' → b ∈ F := by
  cases jo with
  | none => exact ⟨[], ⟨by simp [renO, h.1], rfl⟩, List.nodup_nil, fun b hb => by cases hb⟩
  | some b =>
    obtain ⟨arr, e, fr, fp, hb, hz, hl, hc, h1, rfl⟩ := h
    have sub : ∀ k, ∀ c, c ∈ (if noId depth (ob.cells.getD k .undef) = true then fp k else []) → c ∈ fp k := fun k c hc => by
      split at hc
      · exact hc
      · cases hc
    refine ⟨b :: (List.range ob.cells.length).flatMap (fun k => if noId depth (ob.cells.getD k .undef) then fp k else []), ⟨arr, e, fr, fun k => if noId depth (ob.cells.getD k .undef) then fp k else [], hb, hz, by simpa [renO] using hl, fun k hk => ?_, fun k hk => h1 k (by simpa [renO] using hk), by simp [renO]⟩, ?_, ?_⟩
    · have hk' : k < ob.cells.length := by simpa [renO] using hk
      have := (hc k hk').renC (ord := ord)
      simpa only [renO, List.getElem_map, List.getD_eq_getElem?_getD, List.getElem?_eq_getElem hk', Option.getD_some] using this
    · rw [List.nodup_cons] at hn ⊢
      obtain ⟨n1, n2⟩ := nodup_fm.1 hn.2
      refine ⟨fun hx => hn.1 ?_, nodup_fm.2 ⟨fun k hk => ?_, fun i j hij hj c hci hcj => n2 i j hij hj c (sub i c hci) (sub j c hcj)⟩⟩
      · obtain ⟨k, hk, hc'⟩ := mem_fm.1 hx
        exact mem_fm.2 ⟨k, hk, sub k b hc'⟩
      · split
        · exact n1 k hk
        · exact List.nodup_nil
    · intro c hc'
      rcases List.mem_cons.1 hc' with rfl | hc'
      · exact List.mem_cons_self ..
      · obtain ⟨k, hk, hc''⟩ := mem_fm.1 hc'
        exact List.mem_cons_of_mem _ (mem_fm.2 ⟨k, hk, sub k c hc''⟩)
end

theorem nodupB_inj : ∀ {l : List Nat}, nodupB l = true → ∀ i j, i < l.length → j < l.length → l.getD i 0 = l.getD j 0 → i = j
  | [], _, i, j, hi, _, _ => by simp at hi
  | x :: xs, h, i, j, hi, hj, e => by
    simp only [nodupB, Bool.and_eq_true, Bool.not_eq_true', List.contains_eq_mem, decide_eq_false_iff_not] at h
    cases i with
    | zero =>
      cases j with
      | zero => rfl
      | succ j =>
        exfalso
        have hj' : j < xs.length := by simpa using hj
        simp only [List.getD_cons_zero, List.getD_cons_succ] at e
        rw [List.getD_eq_getElem?_getD, List.getElem?_eq_getElem hj', Option.getD_some] at e
        exact h.1 (e ▸ List.getElem_mem hj')
    | succ i =>
      have hi' : i < xs.length := by simpa using hi
      cases j with
      | zero =>
        exfalso
        simp only [List.getD_cons_zero, List.getD_cons_succ] at e
        rw [List.getD_eq_getElem?_getD, List.getElem?_eq_getElem hi', Option.getD_some] at e
        exact h.1 (e ▸ List.getElem_mem hi')
      | succ j => rw [nodupB_inj h.2 i j hi' (by simpa using hj) (by simpa using e)]

theorem lookF_keep {w : World} {S : Nat → Prop} {J : Nat → Option (Option Nat)} {H : Nat → Option Ob} {f : Nat → V} {x : Value} {t : Nat} (h : VR w S J H (f t) x) : ∀ keep : List Nat, VR w S J H (lookF (keep.map fun t => (t, f t)) t) x
  | [] => .any x
  | k :: ks => by
    simp only [List.map_cons, lookF]
    split
    · rename_i e; subst e; exact h
    · exact lookF_keep h ks

/-- The state of a frame, its objects numbered anew. -/
theorem SR.canon {B : Beg} {st : St} {a : Act} {w : World} {g : Gh} (s : SR B st.fr st.H (fun id => id < st.nx) a w g) (hk : ∀ p, p ∈ B.keep → noId depth p.1 = true ∨ (p.1 = .ptr 0 0 0 ∧ st.rs.testBit 0 = true)) (keep : List Nat) :
    ∃ g', SR B (Ev.canon keep st).fr (Ev.canon keep st).H (fun id => id < (Ev.canon keep st).nx) a w g' := by
  unfold Ev.canon canonW
  generalize ordOf keep st.fr st.H = ord
  split
  · rename_i hc
    simp only [Bool.and_eq_true, decide_eq_true_eq] at hc
    have hinj := nodupB_inj hc.1.1
    have hpin : st.rs.testBit 0 = true → Ev.renV ord st.H depth (.ptr 0 0 0) = .ptr 0 0 0 := fun hb => by
      have h2 := hc.2
      rw [hb] at h2
      simp only [Bool.not_true, Bool.false_or] at h2
      unfold pinH at h2
      split at h2
      · rename_i r ob hob
        have hv : ob.ver = 0 := by simpa using h2
        show renI (0 :: r) st.H 0 0 (fun j => V.ptr j 0 0) = V.ptr 0 0 0
        unfold renI
        rw [hob]
        show (if ob.ver = 0 then V.ptr 0 0 0 else V.any) = V.ptr 0 0 0
        rw [if_pos hv]
      · cases h2
    have hF : ∀ j, ∃ F', (∀ ob' jo, renH ord st.H j = some ob' → renJ ord g.J j = some jo → OR w g.S (renJ ord g.J) (renH ord st.H) ob' jo F' ∧ F'.Nodup) ∧ ∀ b, b ∈ F' → b ∈ g.F (ord.getD j 0) := fun j => by
      cases ho : renH ord st.H j with
      | none => exact ⟨[], ⟨fun ob' jo h => (by cases h), fun b hb => (by cases hb)⟩⟩
      | some ob' =>
        obtain ⟨hj, ob, h1, rfl⟩ := renH_some ho
        cases hj2 : g.J (ord.getD j 0) with
        | none => exact absurd hj2 (s.m.hj _ _ h1)
        | some jo =>
          obtain ⟨F', o1, o2, o3⟩ := (s.m.ob _ _ _ h1 hj2).ren (ord := ord) (s.m.nd _ _ h1)
          refine ⟨F', fun ob' jo' e1 e2 => ?_, o3⟩
          injection e1 with e1
          subst e1
          unfold renJ at e2
          rw [if_pos hj, hj2] at e2
          injection e2 with e2
          subst e2
          exact ⟨o1, o2⟩
    have hJ : ∀ {j ob'}, renH ord st.H j = some ob' → renJ ord g.J j ≠ none := fun {j ob'} h => by
      obtain ⟨hj, ob, h1, rfl⟩ := renH_some h
      unfold renJ
      rw [if_pos hj]
      exact s.m.hj _ _ h1
    have hF' : ∀ j, ∃ F', (∀ ob', renH ord st.H j = some ob' → F'.Nodup) ∧ (∀ ob' jo, renH ord st.H j = some ob' → renJ ord g.J j = some jo → OR w g.S (renJ ord g.J) (renH ord st.H) ob' jo F') ∧ ∀ b, b ∈ F' → b ∈ g.F (ord.getD j 0) := fun j => by
      obtain ⟨F', h1, h2⟩ := hF j
      refine ⟨F', fun ob' e => ?_, fun ob' jo e1 e2 => (h1 ob' jo e1 e2).1, h2⟩
      cases hj : renJ ord g.J j with
      | none => exact absurd hj (hJ e)
      | some jo => exact (h1 ob' jo e hj).2
    let F : Nat → List Nat := fun j => Classical.choose (hF' j)
    have f1 : ∀ j ob', renH ord st.H j = some ob' → (F j).Nodup := fun j => (Classical.choose_spec (hF' j)).1
    have f2 : ∀ j ob' jo, renH ord st.H j = some ob' → renJ ord g.J j = some jo → OR w g.S (renJ ord g.J) (renH ord st.H) ob' jo (F j) := fun j => (Classical.choose_spec (hF' j)).2.1
    have f3 : ∀ j b, b ∈ F j → b ∈ g.F (ord.getD j 0) := fun j => (Classical.choose_spec (hF' j)).2.2
    refine ⟨⟨renJ ord g.J, g.S, F⟩, s.df, s.sz, fun t => ?_, fun id hid => ?_, ?_, fun p hp => ?kp⟩
    case kp =>
      rcases hk p hp with h | ⟨h, hb⟩
      · exact (s.kp p hp).noId h
      · have := (s.kp p hp).renV (ord := ord) depth
        rw [h, hpin hb] at this
        rw [h]; exact this
    · exact lookF_keep (f := fun t => Ev.renV ord st.H depth (st.fr t)) ((s.sl t).renV depth) keep
    · show id < 64
      have : id < ord.length := by
        by_cases h : id < ord.length
        · exact h
        · exfalso; apply hid; show renJ ord g.J id = none; unfold renJ; rw [if_neg h]
      omega
    · show MR B (renH ord st.H) w _
      refine ⟨fun id ob h => hJ h, fun id ob jo h1 h2 => f2 id ob jo h1 h2, fun id ob h => f1 id ob h, fun id id' ob ob' hne h1 h2 b hb hb' => ?_, fun id ob b h hl hj => ?_, fun hs id ob h hl b hb => ?_, fun id ob h b hb => ?_, s.m.lt, s.m.s0, s.m.s1, s.m.os, s.m.tape, s.m.output, s.m.size, s.m.fm, s.m.bs⟩
      · obtain ⟨q1, o1, p1, rfl⟩ := renH_some h1
        obtain ⟨q2, o2, p2, rfl⟩ := renH_some h2
        exact s.m.dj _ _ o1 o2 (fun e => hne (hinj id id' q1 q2 e)) p1 p2 b (f3 id b hb) (f3 id' b hb')
      · obtain ⟨q1, o1, p1, rfl⟩ := renH_some h
        have hj' : renJ ord g.J id = some (some b) := hj
        unfold renJ at hj'
        rw [if_pos q1] at hj'
        exact s.m.mu _ o1 b p1 hl hj'
      · obtain ⟨q1, o1, p1, rfl⟩ := renH_some h
        exact s.m.ms hs _ o1 p1 hl b (f3 id b hb)
      · obtain ⟨q1, o1, p1, rfl⟩ := renH_some h
        exact s.m.new _ o1 p1 b (f3 id b hb)
  · exact ⟨g, s⟩

end Go.Proofs.Ytacfkfdnncgjcaa.Ev
end
