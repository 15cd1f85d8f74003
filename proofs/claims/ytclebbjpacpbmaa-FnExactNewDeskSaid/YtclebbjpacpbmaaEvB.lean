/- The abstract interpreter: more rounds tell the same; the equations by which it is run. Conditions: none. -/
import Derived.Test.YtclebbjpacpbmaaEvA
set_option linter.unusedVariables false
set_option linter.unusedSimpArgs false
namespace Go.Proofs.Ytclebbjpacpbmaa.Ev
open Go

def Ext (c c' : FuncId → List V → Option Res) : Prop := ∀ f args r, c f args = some r → c' f args = some r

theorem Ext.refl (c : FuncId → List V → Option Res) : Ext c c := fun _ _ _ h => h
theorem Ext.trans {a b c : FuncId → List V → Option Res} (h : Ext a b) (k : Ext b c) : Ext a c := fun f args r e => k f args r (h f args r e)

theorem callD_mono {H : Nat → Option Ob} {b : Nat} {s : Bool} {modes : List Nat} {c c' : List V → Option Res} {args : List V} {d : D}
    (h : ∀ a r, c a = some r → c' a = some r) (e : callD H b s modes c args = some d) : callD H b s modes c' args = some d := by
  unfold callD at e ⊢
  cases hp : prepL H modes args with
  | none => simp [hp] at e
  | some ps =>
    simp only [hp] at e ⊢
    split at e
    · rename_i hc
      rw [if_pos hc]
      cases hcall : c (ps.map (·.v)) with
      | none => simp [hcall] at e
      | some r =>
        simp only [hcall] at e
        simp only [h _ _ hcall]
        exact e
    · cases e

theorem opD_mono {P : Program} {modes : FuncId → List Nat} {s : Bool} {c c' : FuncId → List V → Option Res} {fr : Nat → V} {H : Nat → Option Ob} {b : Nat} {op : Op} {d : D}
    (h : Ext c c') (e : opD P modes s c fr H b op = some d) : opD P modes s c' fr H b op = some d := by
  cases op <;> try exact e
  rename_i cl
  simp only [opD] at e ⊢
  unfold callOp at e ⊢
  split at e
  · exact e
  · obtain ⟨args, h1, h2⟩ := Option.bind_eq_some_iff.1 e
    obtain ⟨x, h3, h4⟩ := Option.bind_eq_some_iff.1 h2
    rw [h1, Option.bind_some, h3, Option.bind_some]
    exact callD_mono (fun a r => h _ a r) h4
  · exact e

theorem stepD_mono {E : Env} {s : Bool} {c c' : FuncId → List V → Option Res} {ops : List Oper} {i : Nat} {o : Oper} {st : St} {d : D}
    (h : Ext c c') (e : stepD E s c ops i o st = some d) : stepD E s c' ops i o st = some d := by
  unfold stepD at e ⊢
  split at e
  · exact opD_mono h e
  · exact e
  · cases e

theorem runO_mono {E : Env} {s : Bool} {c c' : FuncId → List V → Option Res} {ops : List Oper} (h : Ext c c') : ∀ (rest : List Oper) (i : Nat) (st : St) (acc : List D) (r : St × List D),
    runO E s c ops rest i st acc = some r → runO E s c' ops rest i st acc = some r
  | [], i, st, acc, r, e => e
  | o :: rest, i, st, acc, r, e => by
    unfold runO at e ⊢
    cases hd : stepD E s c ops i o st with
    | none => simp [hd] at e
    | some d =>
      simp only [hd] at e
      simp only [stepD_mono h hd]
      exact runO_mono h rest (i + 1) _ _ r e

theorem execL_mono {E : Env} {s : Bool} {c c' : FuncId → List V → Option Res} (h : Ext c c') : ∀ (n m : Nat) (items : List Item) (st st' : St), n ≤ m →
    execL E s c n items st = some st' → execL E s c' m items st = some st' := by
  intro n
  induction n with
  | zero => intro m items st st' hm e; simp [execL] at e
  | succ n ih =>
    intro m items st st' hm e
    obtain ⟨m, rfl⟩ : ∃ j, m = j + 1 := ⟨m - 1, by omega⟩
    have hm' : n ≤ m := by omega
    unfold execL at e ⊢
    split at e <;> try exact e
    all_goals try exact ih m _ _ _ hm' e
    · split at e
      · exact ih m _ _ _ hm' e
      · cases e
    · split at e
      · exact ih m _ _ _ hm' e
      · cases e
    · split at e
      · exact ih m _ _ _ hm' e
      · cases e
    · split at e
      · rename_i hr
        rw [runO_mono h _ _ _ _ _ hr]
        simp only
        split at e
        · cases e
        · rename_i hc
          rw [if_neg hc]
          exact ih m _ _ _ hm' e
      · cases e

theorem callF_succ {E : Env} : ∀ n, Ext (callF E n) (callF E (n + 1)) := by
  intro n
  induction n with
  | zero => intro f args r e; simp [callF] at e
  | succ n ih =>
    intro f args r e
    unfold callF at e ⊢
    split at e
    · exact e
    · split at e
      · split at e
        · split at e
          · rename_i h1 _ fn h2 _ c h3 h4
            rw [if_pos h4]
            obtain ⟨st, hs, hf⟩ := Option.bind_eq_some_iff.1 e
            exact Option.bind_eq_some_iff.2 ⟨st, execL_mono ih n (n + 1) _ _ _ (by omega) hs, hf⟩
          · cases e
        · cases e
      · cases e

theorem callF_mono {E : Env} {n m : Nat} (h : n ≤ m) : Ext (callF E n) (callF E m) := by
  induction h with
  | refl => exact Ext.refl _
  | step _ ih => exact ih.trans (callF_succ _)

/-- What a call comes to, at however many rounds. -/
def Run (E : Env) (f : FuncId) (args : List V) (r : Res) : Prop := ∃ n, callF E n f args = some r

theorem Run.unique {E : Env} {f : FuncId} {args : List V} {r r' : Res} (h : Run E f args r) (h' : Run E f args r') : r = r' := by
  obtain ⟨n, hn⟩ := h
  obtain ⟨m, hm⟩ := h'
  have a := callF_mono (Nat.le_max_left n m) f args r hn
  have b := callF_mono (Nat.le_max_right n m) f args r' hm
  rw [a] at b
  injection b

open Classical in
noncomputable def runv (E : Env) (f : FuncId) (args : List V) : Option Res := if h : ∃ r, Run E f args r then some h.choose else none

theorem runv_of_run {E : Env} {f : FuncId} {args : List V} {r : Res} (h : Run E f args r) : runv E f args = some r := by
  have hex : ∃ r, Run E f args r := ⟨r, h⟩
  unfold runv
  rw [dif_pos hex]
  exact congrArg some (hex.choose_spec.unique h)
theorem run_of_runv {E : Env} {f : FuncId} {args : List V} {r : Res} (h : runv E f args = some r) : Run E f args r := by
  unfold runv at h
  split at h
  · rename_i hex
    injection h with h
    rw [← h]
    exact hex.choose_spec
  · cases h
theorem callF_runv {E : Env} (n : Nat) : Ext (callF E n) (runv E) := fun f args r h => runv_of_run ⟨n, h⟩

/-! ### Code: what is left to do comes to an end, and there Q holds -/
def WL (E : Env) (s : Bool) (items : List Item) (Q : St → Prop) (st : St) : Prop := ∃ n st', execL E s (callF E n) n items st = some st' ∧ Q st'

theorem WL_step {E : Env} {s : Bool} {items items' : List Item} {Q : St → Prop} {st st' : St}
    (h : ∀ n c, execL E s c (n + 1) items st = execL E s c n items' st') : WL E s items Q st = WL E s items' Q st' := by
  apply propext
  constructor
  · rintro ⟨n, r, e, q⟩
    cases n with
    | zero => simp [execL] at e
    | succ n =>
      rw [h] at e
      exact ⟨n + 1, r, execL_mono (Ext.refl _) n (n + 1) _ _ _ (by omega) e, q⟩
  · rintro ⟨n, r, e, q⟩
    exact ⟨n + 1, r, by rw [h]; exact execL_mono (callF_succ n) n n _ _ _ (Nat.le_refl _) e, q⟩

theorem WL_end {E : Env} {s : Bool} {items : List Item} {Q : St → Prop} {st : St} (h : ∀ n c, execL E s c (n + 1) items st = some st) : WL E s items Q st = Q st := by
  apply propext
  constructor
  · rintro ⟨n, r, e, q⟩
    cases n with
    | zero => simp [execL] at e
    | succ n =>
      rw [h] at e
      injection e with e
      rw [e]
      exact q
  · intro q
    exact ⟨1, st, h 0 _, q⟩

section
variable {E : Env} {s : Bool} {Q : St → Prop} {st : St} {k : List Item}
theorem WL_nil : WL E s [] Q st = Q st := WL_end fun n c => rfl
theorem WL_ret : WL E s (.code .ret :: k) Q st = Q st := WL_end fun n c => rfl
theorem WL_skip : WL E s (.code .skip :: k) Q st = WL E s k Q st := WL_step fun n c => rfl
theorem WL_label {l : Nat} : WL E s (.code (.label l) :: k) Q st = WL E s k Q st := WL_step fun n c => rfl
theorem WL_inBlock {l : Nat} : WL E s (.inBlock l :: k) Q st = WL E s k Q st := WL_step fun n c => rfl
theorem WL_inScope {b : Code} : WL E s (.inScope b :: k) Q st = WL E s k Q st := WL_step fun n c => rfl
theorem WL_seq {a b : Code} : WL E s (.code (.seq a b) :: k) Q st = WL E s (.code a :: .code b :: k) Q st := WL_step fun n c => rfl
theorem WL_block {l : Nat} {b : Code} : WL E s (.code (.block l b) :: k) Q st = WL E s (.code b :: .inBlock l :: k) Q st := WL_step fun n c => rfl
theorem WL_loop {b : Code} : WL E s (.code (.loop b) :: k) Q st = WL E s (.inLoop b :: k) Q st := by
  rw [WL_step (items := .code (.loop b) :: k) (items' := .code b :: .inLoop b :: k) (st' := headSt E (.inLoop b :: k) st) fun n c => rfl, WL_step (items := .inLoop b :: k) (items' := .code b :: .inLoop b :: k) (st' := headSt E (.inLoop b :: k) st) fun n c => rfl]
theorem WL_head {b : Code} : WL E s (.inLoop b :: k) Q st = WL E s (.code b :: .inLoop b :: k) Q (headSt E (.inLoop b :: k) st) := WL_step fun n c => rfl
theorem WL_inLoop (hr : E.reb = false) {b : Code} : WL E s (.inLoop b :: k) Q st = WL E s (.code b :: .inLoop b :: k) Q st := by
  rw [WL_head, headSt, hr]; rfl
theorem WL_scope {b : Code} : WL E s (.code (.scope b) :: k) Q st = WL E s (.code b :: .inScope b :: k) Q st := WL_step fun n c => rfl
theorem WL_exit {l : Nat} {k' : List Item} (h : exitTo l k = some k') : WL E s (.code (.exit l) :: k) Q st = WL E s k' Q st :=
  WL_step fun n c => by simp only [execL, h]
theorem WL_goto {l : Nat} {k' : List Item} (h : gotoIn l k = some k') : WL E s (.code (.goto l) :: k) Q st = WL E s k' Q st :=
  WL_step fun n c => by simp only [execL, h]
theorem WL_cond_t {c : Operand} {a b : Code} (h : ev st.fr c = some (.bool true)) : WL E s (.code (.cond c a b) :: k) Q st = WL E s (.code a :: k) Q st :=
  WL_step fun n c => by simp only [execL, h, if_true]
theorem WL_cond_f {c : Operand} {a b : Code} (h : ev st.fr c = some (.bool false)) : WL E s (.code (.cond c a b) :: k) Q st = WL E s (.code b :: k) Q st :=
  WL_step fun n c => by simp only [execL, h, Bool.false_eq_true, if_false]
end

/-- A test, by its Bool. -/
def WC (E : Env) (s : Bool) (v : Option V) (a b : Code) (k : List Item) (Q : St → Prop) (st : St) : Prop :=
  match v with
  | some (.bool true) => WL E s (.code a :: k) Q st
  | some (.bool false) => WL E s (.code b :: k) Q st
  | _ => False

theorem WL_cond {E : Env} {s : Bool} {Q : St → Prop} {st : St} {k : List Item} {c : Operand} {a b : Code} :
    WL E s (.code (.cond c a b) :: k) Q st = WC E s (ev st.fr c) a b k Q st := by
  unfold WC
  split
  · rename_i h; exact WL_cond_t h
  · rename_i h; exact WL_cond_f h
  · rename_i h1 h2
    apply propext
    constructor
    · rintro ⟨n, r, e, q⟩
      cases n with
      | zero => simp [execL] at e
      | succ n =>
        simp only [execL] at e
        split at e
        · rename_i t ht
          cases t
          · exact h2 ht
          · exact h1 ht
        · cases e
    · intro h; exact h.elim
theorem WC_t {E : Env} {s : Bool} {Q : St → Prop} {st : St} {k : List Item} {a b : Code} : WC E s (some (.bool true)) a b k Q st = WL E s (.code a :: k) Q st := rfl
theorem WC_f {E : Env} {s : Bool} {Q : St → Prop} {st : St} {k : List Item} {a b : Code} : WC E s (some (.bool false)) a b k Q st = WL E s (.code b :: k) Q st := rfl

/-- A jump, by where it leads. -/
def WX (E : Env) (s : Bool) (k : Option (List Item)) (Q : St → Prop) (st : St) : Prop :=
  match k with
  | some k => WL E s k Q st
  | none => False

theorem WL_exitX {E : Env} {s : Bool} {Q : St → Prop} {st : St} {k : List Item} {l : Nat} : WL E s (.code (.exit l) :: k) Q st = WX E s (exitTo l k) Q st := by
  cases h : exitTo l k with
  | some k' => exact WL_exit h
  | none =>
    apply propext
    constructor
    · rintro ⟨n, r, e, q⟩
      cases n with
      | zero => simp [execL] at e
      | succ n => simp [execL, h] at e
    · intro h; exact h.elim
theorem WL_gotoX {E : Env} {s : Bool} {Q : St → Prop} {st : St} {k : List Item} {l : Nat} : WL E s (.code (.goto l) :: k) Q st = WX E s (gotoIn l k) Q st := by
  cases h : gotoIn l k with
  | some k' => exact WL_goto h
  | none =>
    apply propext
    constructor
    · rintro ⟨n, r, e, q⟩
      cases n with
      | zero => simp [execL] at e
      | succ n => simp [execL, h] at e
    · intro h; exact h.elim
theorem WX_some {E : Env} {s : Bool} {Q : St → Prop} {st : St} {k : List Item} : WX E s (some k) Q st = WL E s k Q st := rfl

/-! ### Regions -/
theorem stepD_runv {E : Env} {s : Bool} {ops : List Oper} {i : Nat} {o : Oper} {st : St} {d : D} (h : stepD E s (runv E) ops i o st = some d) :
    ∃ n, stepD E s (callF E n) ops i o st = some d := by
  unfold stepD at h ⊢
  split at h
  · generalize o.op = op at h ⊢
    cases op <;> try exact ⟨0, h⟩
    rename_i cl
    simp only [opD] at h ⊢
    unfold callOp at h ⊢
    split at h
    · exact ⟨0, h⟩
    · obtain ⟨args, h1, h2⟩ := Option.bind_eq_some_iff.1 h
      obtain ⟨x, h3, h4⟩ := Option.bind_eq_some_iff.1 h2
      simp only [h1, h3, Option.bind_some]
      unfold callD at h4 ⊢
      cases hp : prepL st.H (E.modes x.1) (x.2.1 ++ args ++ x.2.2) with
      | none => simp only [hp, reduceCtorEq] at h4
      | some ps =>
        simp only [hp] at h4 ⊢
        split at h4
        · rename_i hcc
          cases hcall : runv E x.1 (ps.map (·.v)) with
          | none => simp only [hcall, reduceCtorEq] at h4
          | some r =>
            obtain ⟨n, hn⟩ := run_of_runv hcall
            refine ⟨n, ?_⟩
            rw [if_pos hcc, hn]
            rw [hcall] at h4
            exact h4
        · cases h4
    · exact ⟨0, h⟩
  · exact ⟨0, h⟩
  · cases h

theorem runO_runv {E : Env} {s : Bool} {ops : List Oper} : ∀ (rest : List Oper) (i : Nat) (st : St) (acc : List D) (r : St × List D), runO E s (runv E) ops rest i st acc = some r →
    ∃ n, runO E s (callF E n) ops rest i st acc = some r
  | [], i, st, acc, r, e => ⟨0, e⟩
  | o :: rest, i, st, acc, r, e => by
    unfold runO at e
    cases hd : stepD E s (runv E) ops i o st with
    | none => simp [hd] at e
    | some d =>
      simp only [hd] at e
      obtain ⟨n, hn⟩ := stepD_runv hd
      obtain ⟨m, hm⟩ := runO_runv rest _ _ _ _ e
      refine ⟨max n m, ?_⟩
      unfold runO
      rw [stepD_mono (callF_mono (Nat.le_max_left n m)) hn]
      exact runO_mono (callF_mono (Nat.le_max_right n m)) _ _ _ _ _ hm

/-- A region whose order is the text's: operation by operation. -/
def WO (E : Env) (s : Bool) (ops : List Oper) : List Oper → Nat → List Item → (St → Prop) → St → Prop
  | [], i, k, Q, st => WL E s k Q { st with nx := st.nx + 64 * i }
  | o :: rest, i, k, Q, st => match stepD E s (runv E) ops i o st with
    | some d => WO E s ops rest (i + 1) k Q (st.app o.dst d)
    | none => False
/-- The same behind one operation. -/
def WD (E : Env) (s : Bool) (ops : List Oper) (rest : List Oper) (i : Nat) (k : List Item) (Q : St → Prop) (dst : Option Nat) (st : St) (d : Option D) : Prop :=
  match d with
  | some d => WO E s ops rest (i + 1) k Q (st.app dst d)
  | none => False

theorem WO_iff {E : Env} {s : Bool} {ops : List Oper} {k : List Item} {Q : St → Prop} : ∀ (rest : List Oper) (i : Nat) (st : St) (acc : List D), WO E s ops rest i k Q st ↔
    ∃ st' ds, runO E s (runv E) ops rest i st acc = some (st', ds) ∧ WL E s k Q st'
  | [], i, st, acc => ⟨fun h => ⟨_, acc, rfl, h⟩, fun ⟨st', ds, h, q⟩ => by
      simp only [runO, Option.some.injEq, Prod.mk.injEq] at h
      rw [← h.1] at q; exact q⟩
  | o :: rest, i, st, acc => by
    unfold WO runO
    cases hd : stepD E s (runv E) ops i o st with
    | none => exact ⟨fun h => h.elim, fun ⟨_, _, h, _⟩ => by cases h⟩
    | some d => exact WO_iff rest (i + 1) _ _

theorem WL_region {E : Env} {s : Bool} {Q : St → Prop} {st : St} {k : List Item} {id : Nat} {ops : List Oper} :
    WL E s (.code (.region id ops.toArray false) :: k) Q st = WO E s ops ops 0 k Q st := by
  apply propext
  rw [WO_iff ops 0 st []]
  constructor
  · rintro ⟨n, r, e, q⟩
    cases n with
    | zero => simp [execL] at e
    | succ n =>
      simp only [execL, List.toList_toArray] at e
      cases hr : runO E s (callF E (n + 1)) ops ops 0 st [] with
      | none => rw [hr] at e; cases e
      | some x =>
        obtain ⟨st', ds⟩ := x
        rw [hr] at e
        simp only [Bool.false_and, Bool.false_eq_true, if_false] at e
        exact ⟨st', ds, runO_mono (callF_runv (n + 1)) _ _ _ _ _ hr, n + 1, r, execL_mono (Ext.refl _) n (n + 1) _ _ _ (by omega) e, q⟩
  · rintro ⟨st', ds, hr, n, r, e, q⟩
    obtain ⟨m, hm⟩ := runO_runv _ _ _ _ _ hr
    refine ⟨max n m + 1, r, ?_, q⟩
    have a := runO_mono (callF_mono (E := E) (Nat.le_trans (Nat.le_max_right n m) (Nat.le_succ _))) _ _ _ _ _ hm
    have c := execL_mono (callF_mono (E := E) (Nat.le_trans (Nat.le_max_left n m) (Nat.le_succ _))) n (max n m) _ _ _ (Nat.le_max_left n m) e
    simp only [execL, List.toList_toArray, a, Bool.false_and, Bool.false_eq_true, if_false, c]

/-- A region that draws its order. -/
def WOd (E : Env) (s : Bool) (ops : List Oper) : List Oper → Nat → List D → List Item → (St → Prop) → St → Prop
  | [], i, acc, k, Q, st => pairsOk E.modes ops acc = true ∧ WL E s k Q { st with nx := st.nx + 64 * i }
  | o :: rest, i, acc, k, Q, st => match stepD E s (runv E) ops i o st with
    | some d => WOd E s ops rest (i + 1) (acc ++ [d]) k Q (st.app o.dst d)
    | none => False
def WDd (E : Env) (s : Bool) (ops : List Oper) (rest : List Oper) (i : Nat) (acc : List D) (k : List Item) (Q : St → Prop) (dst : Option Nat) (st : St) (d : Option D) : Prop :=
  match d with
  | some d => WOd E s ops rest (i + 1) (acc ++ [d]) k Q (st.app dst d)
  | none => False

theorem WOd_iff {E : Env} {s : Bool} {ops : List Oper} {k : List Item} {Q : St → Prop} : ∀ (rest : List Oper) (i : Nat) (st : St) (acc : List D), WOd E s ops rest i acc k Q st ↔
    ∃ st' ds, runO E s (runv E) ops rest i st acc = some (st', ds) ∧ pairsOk E.modes ops ds = true ∧ WL E s k Q st'
  | [], i, st, acc => ⟨fun h => ⟨_, acc, rfl, h⟩, fun ⟨st', ds, h, q⟩ => by
      simp only [runO, Option.some.injEq, Prod.mk.injEq] at h
      rw [← h.1, ← h.2] at q; exact q⟩
  | o :: rest, i, st, acc => by
    unfold WOd runO
    cases hd : stepD E s (runv E) ops i o st with
    | none => exact ⟨fun h => h.elim, fun ⟨_, _, h, _⟩ => by cases h⟩
    | some d => exact WOd_iff rest (i + 1) _ _

theorem WL_regionD {E : Env} {s : Bool} {Q : St → Prop} {st : St} {k : List Item} {id : Nat} {ops : List Oper} :
    WL E s (.code (.region id ops.toArray true) :: k) Q st = (statOk ops = true ∧ WOd E s ops ops 0 [] k Q st) := by
  apply propext
  rw [WOd_iff ops 0 st []]
  constructor
  · rintro ⟨n, r, e, q⟩
    cases n with
    | zero => simp [execL] at e
    | succ n =>
      simp only [execL, List.toList_toArray] at e
      cases hr : runO E s (callF E (n + 1)) ops ops 0 st [] with
      | none => rw [hr] at e; cases e
      | some x =>
        obtain ⟨st', ds⟩ := x
        rw [hr] at e
        simp only [Bool.true_and] at e
        split at e
        · cases e
        · rename_i hc
          have hc' : (statOk ops && pairsOk E.modes ops ds) = true := by simpa using hc
          rw [Bool.and_eq_true] at hc'
          exact ⟨hc'.1, st', ds, runO_mono (callF_runv (n + 1)) _ _ _ _ _ hr, hc'.2, n + 1, r, execL_mono (Ext.refl _) n (n + 1) _ _ _ (by omega) e, q⟩
  · rintro ⟨hs, st', ds, hr, hp, n, r, e, q⟩
    obtain ⟨m, hm⟩ := runO_runv _ _ _ _ _ hr
    refine ⟨max n m + 1, r, ?_, q⟩
    have a := runO_mono (callF_mono (E := E) (Nat.le_trans (Nat.le_max_right n m) (Nat.le_succ _))) _ _ _ _ _ hm
    have c := execL_mono (callF_mono (E := E) (Nat.le_trans (Nat.le_max_left n m) (Nat.le_succ _))) n (max n m) _ _ _ (Nat.le_max_left n m) e
    simp only [execL, List.toList_toArray, a, hs, hp, Bool.and_self, Bool.not_true, Bool.and_false, Bool.false_eq_true, if_false, c]

section
variable {E : Env} {s : Bool} {ops rest : List Oper} {o : Oper} {i : Nat} {k : List Item} {Q : St → Prop} {st : St} {acc : List D} {d : D} {dst : Option Nat}
theorem WO_nil : WO E s ops [] i k Q st = WL E s k Q { st with nx := st.nx + 64 * i } := rfl
theorem WO_cons : WO E s ops (o :: rest) i k Q st = WD E s ops rest i k Q o.dst st (stepD E s (runv E) ops i o st) := rfl
theorem WD_some : WD E s ops rest i k Q dst st (some d) = WO E s ops rest (i + 1) k Q (st.app dst d) := rfl
theorem WOd_nil : WOd E s ops [] i acc k Q st = (pairsOk E.modes ops acc = true ∧ WL E s k Q { st with nx := st.nx + 64 * i }) := rfl
theorem WOd_cons : WOd E s ops (o :: rest) i acc k Q st = WDd E s ops rest i acc k Q o.dst st (stepD E s (runv E) ops i o st) := rfl
theorem WDd_some : WDd E s ops rest i acc k Q dst st (some d) = WOd E s ops rest (i + 1) (acc ++ [d]) k Q (st.app dst d) := rfl
end

/-! ### Loops: an invariant and a measure -/

/-- A loop by what holds at each round's head: 'I j', j what is left. -/
theorem WL_rounds {E : Env} {s : Bool} {Q : St → Prop} {k : List Item} {b : Code} (I : Nat → St → Prop)
    (step : ∀ j st, I j st → (∀ j' st', j' < j → I j' st' → WL E s (.inLoop b :: k) Q st') → WL E s (.code b :: .inLoop b :: k) Q st) :
    ∀ j st, I j st → (hr : E.reb = false := by rfl) → WL E s (.inLoop b :: k) Q st := by
  intro j st h hr
  revert st
  induction j using Nat.strongRecOn with
  | _ j ih =>
    intro st h
    rw [WL_inLoop hr]
    exact step j st h fun j' st' hj h' => ih j' hj st' h'

/-! ### A function, by its text -/
theorem run_of_WL {E : Env} {f : FuncId} {fn : Func} {c : Code} {args : List V} {r : Res} (hp : E.prim f args = none) (hf : E.P.funcs[f]? = some fn) (hb : fn.body = some c)
    (hn : args.length ≤ fn.ntmps ∧ args.all wideA ∧ codeOk fn.ntmps c ∧ fn.name ≠ "runtime.NumGoroutine")
    (h : WL E (E.strict f) [.code c] (Ends E.P (E.strict f) fn args r) (St.enter args)) (hr : E.reb = false := by rfl) : runv E f args = some r := by
  obtain ⟨n, st, e, q⟩ := h
  refine runv_of_run ⟨n + 1, ?_⟩
  unfold callF
  simp only [hp, hf, hb, envAt, St.start, hr, Bool.false_and, Bool.false_eq_true, if_false]
  rw [if_pos hn, e]
  exact q
theorem run_of_WLr {E : Env} {f : FuncId} {fn : Func} {c : Code} {args : List V} {r : Res} (hp : E.prim f args = none) (hf : E.P.funcs[f]? = some fn) (hb : fn.body = some c)
    (hn : args.length ≤ fn.ntmps ∧ args.all wideA ∧ codeOk fn.ntmps c ∧ fn.name ≠ "runtime.NumGoroutine") (hr : E.reb = true) (ho : rebOk args = true)
    (h : WL E (E.strict f) [.code c] (Ends E.P (E.strict f) fn args r) { St.enter args with rs := resM fn }) : runv E f args = some r := by
  obtain ⟨n, st, e, q⟩ := h
  refine runv_of_run ⟨n + 1, ?_⟩
  unfold callF
  simp only [hp, hf, hb, envAt, St.start, hr, ho, Bool.true_and, Bool.not_true, Bool.false_eq_true, if_false, if_true]
  rw [if_pos hn, e]
  exact q

/-! ### Loops at whose head the objects are numbered anew -/
theorem WL_reb {E : Env} {s : Bool} {Q : St → Prop} {st : St} {k : List Item} {b : Code} (hr : E.reb = true) : WL E s (.inLoop b :: k) Q st = WL E s (.code b :: .inLoop b :: k) Q (canon (maskL (livK st.rs (.inLoop b :: k)).1) st) := by
  rw [WL_head, headSt, hr]; rfl
theorem WL_forX {E : Env} {s : Bool} {Q : St → Prop} {k : List Item} {b : Code} {rs : Nat} {keep : List Nat} (hr : E.reb = true) (hk : maskL (livK rs (.inLoop b :: k)).1 = keep) {α : Type} (T : α → St) (P : α → Prop) (μ : α → Nat)
    (step : ∀ x, P x → (∀ y st', P y → μ y < μ x → st'.rs = rs → canon keep st' = T y → WL E s (.inLoop b :: k) Q st') → WL E s (.code b :: .inLoop b :: k) Q (T x)) :
    ∀ x st, P x → st.rs = rs → canon keep st = T x → WL E s (.inLoop b :: k) Q st := by
  suffices h : ∀ m x, μ x = m → P x → ∀ st, st.rs = rs → canon keep st = T x → WL E s (.inLoop b :: k) Q st from fun x st p h1 h2 => h _ x rfl p st h1 h2
  intro m
  induction m using Nat.strongRecOn with
  | _ m ih =>
    intro x hx p st h1 h2
    rw [WL_reb hr, h1, hk, h2]
    exact step x p fun y st' p' hy h1' h2' => ih (μ y) (by omega) y rfl p' st' h1' h2'
theorem WL_for {E : Env} {s : Bool} {Q : St → Prop} {k : List Item} {b : Code} {rs : Nat} {keep : List Nat} (hr : E.reb = true) (hk : maskL (livK rs (.inLoop b :: k)).1 = keep) (T : Nat → St) (n : Nat)
    (step : ∀ i, i < n → (∀ st', st'.rs = rs → canon keep st' = T (i + 1) → WL E s (.inLoop b :: k) Q st') → WL E s (.code b :: .inLoop b :: k) Q (T i))
    (last : WL E s (.code b :: .inLoop b :: k) Q (T n)) : ∀ i st, i ≤ n → st.rs = rs → canon keep st = T i → WL E s (.inLoop b :: k) Q st := by
  refine WL_forX hr hk T (fun i => i ≤ n) (fun i => n - i) fun i hi next => ?_
  by_cases h : i = n
  · subst h; exact last
  · exact step i (by omega) fun st' h1 h2 => next (i + 1) st' (by omega) (by omega) h1 h2

end Go.Proofs.Ytclebbjpacpbmaa.Ev
