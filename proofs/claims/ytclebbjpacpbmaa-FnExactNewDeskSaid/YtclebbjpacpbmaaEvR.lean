/- The abstract interpreter: regions. Conditions: none. -/
import Derived.Test.YtclebbjpacpbmaaEvQ
set_option linter.unusedVariables false
set_option linter.unusedSimpArgs false
namespace Go.Proofs.Ytclebbjpacpbmaa.Ev
open Go

section
variable {B : Beg} {H : Nat → Option Ob} {w : World} {g : Gh} {P : Program} {b : Nat}

theorem put_get {a : Act} {dst : Option Nat} {z : Value} {t : Nat} (hd : ∀ t, dst = some t → t < a.tmps.size) : (a.put dst z).tmps.getD t Go.undef = if dst = some t then z else a.tmps.getD t Go.undef := by
  cases dst with
  | none => simp [Act.put]
  | some t0 =>
    have h0 := hd t0 rfl
    simp only [Act.put, Option.some.injEq]
    by_cases e : t0 = t
    · subst e
      rw [if_pos rfl]
      simp [Array.getD, h0]
    · rw [if_neg e]
      simp only [Array.getD, Array.size_setIfInBounds]
      split
      · simp only [Array.getInternal_eq_getElem]
        rw [Array.getElem_setIfInBounds_ne (by assumption) e]
      · rfl

theorem updO_get {fr : Nat → V} {dst : Option Nat} {v : V} {t : Nat} : updO fr dst v t = if dst = some t then v else fr t := by
  cases dst with
  | none => simp [updO]
  | some t0 =>
    simp only [updO, upd, Option.some.injEq]
    by_cases e : t = t0
    · subst e; simp
    · rw [if_neg e, if_neg (fun h => e h.symm)]

theorem SR.put {fr : Nat → V} {hi hi' : Nat → Prop} {a : Act} {d : D} {z : Value} {w' : World} {g' : Gh} {dst : Option Nat} (s : SR B fr H hi a w g) (o : Out B H w g b d z w' g') (hd : ∀ t, dst = some t → t < B.nt)
    (hh : ∀ id, hi id ∨ (b ≤ id ∧ id < b + 64) → hi' id) : SR B (updO fr dst d.v) (appW H d.wr) hi' (a.put dst z) w' g' where
  df := by cases dst <;> exact s.df
  sz := by cases dst <;> simp [Act.put, s.sz]
  sl := fun t => by
    rw [put_get (fun t h => by rw [s.sz]; exact hd t h), updO_get]
    by_cases e : dst = some t
    · rw [if_pos e, if_pos e]; exact o.v
    · rw [if_neg e, if_neg e]; exact (s.sl t).mono o.p
  ids := fun id h => hh id ((o.ids id h).imp (s.ids id) fun h => h)
  m := o.m
  kp := fun p hp => (s.kp p hp).mono o.p

theorem VR.bool_of {v : V} {c : Bool} {S : Nat → Prop} {J : Nat → Option (Option Nat)} (h : VR w S J H v (.bool c)) : v = .bool c ∨ v = .any := by
  cases h with
  | any => exact .inr rfl
  | pure h => cases h; exact .inl rfl

theorem want_sound {fr : Nat → V} {hi : Nat → Prop} {a : Act} (s : SR B fr H hi a w g) {ops : Array Oper} (hd : ∀ o, o ∈ ops.toList → ∀ t, o.dst = some t → t < B.nt) {o : Oper} {c : Bool} (h : wantV ops.toList fr o = some c) :
    Region.wanted o (yielded ops a.tmps) = c := by
  unfold wantV at h
  unfold Region.wanted
  split at h
  · rename_i hg
    rw [hg]
    simpa using h
  · rename_i j want hg
    rw [hg]
    simp only
    unfold yielded
    rw [Array.getElem?_toList] at h
    split at h
    · rename_i t ht
      rw [ht]
      obtain ⟨oj, hoj, hdst⟩ := Option.bind_eq_some_iff.1 ht
      have hlt : t < a.tmps.size := by
        rw [s.sz]
        exact hd oj (by
          have := Array.mem_of_getElem? hoj
          simpa using this) t hdst
      have hget : a.tmps[t]? = some (a.tmps.getD t Go.undef) := getD_of hlt
      simp only [Option.bind_some, hget]
      have hv := s.sl t
      split at h
      · rename_i c' hc
        rw [hc] at hv
        rw [hv.bool_inv]
        simp only [Option.some.injEq] at h
        rw [← h]
        cases c' <;> cases want <;> rfl
      · cases h
      · rename_i hn1 hn2
        simp only [Option.some.injEq] at h
        rw [← h]
        split
        · rename_i c' hc
          injection hc with hc
          rw [hc] at hv
          rcases hv.bool_of with e | e
          · exact absurd e (hn1 _)
          · exact absurd e hn2
        · rfl
    · rename_i hn
      rw [hn]
      simp only [Option.some.injEq] at h
      rw [← h]
      rfl

/-- One operation of a region. -/
theorem step_sound {E : Env} {call : FuncId → List V → Option Res} (hc : ∀ f vals r, call f vals = some r → CallOk E.P f vals r) {ops : Array Oper} (hd : ∀ o, o ∈ ops.toList → ∀ t, o.dst = some t → t < B.nt) {i : Nat} {o : Oper} (ho : ops[i]? = some o)
    {st : St} {d : D} {hi hi' : Nat → Prop} {a : Act} (e : stepD E B.strict call ops.toList i o st = some d) (s : SR B st.fr st.H hi a w g) (hb : ∀ id, st.nx + 64 * i ≤ id → id < st.nx + 64 * i + 64 → g.J id = none)
    (hh : ∀ id, hi id ∨ (st.nx + 64 * i ≤ id ∧ id < st.nx + 64 * i + 64) → hi' id) {K : Act → World → Prop} {Q : Exit → Act → World → Prop} (hK : ∀ a' w' g', SR B (st.app o.dst d).fr (st.app o.dst d).H hi' a' w' g' → K a' w') :
    wpOp E.P ops Q i K a w := by
  have hod : ∀ t, o.dst = some t → t < B.nt := hd o (by
    have := Array.mem_of_getElem? ho
    simpa using this)
  unfold wpOp
  simp only [ho]
  unfold stepD at e
  split at e
  · rename_i hw
    rw [want_sound s hd hw]
    simp only [if_true]
    left
    unfold Oper.wp
    rcases op_sound s.m s.sl hb hc o e with ⟨z, w', g', hr, ho'⟩ | ⟨w', g', hr, ho'⟩ | ⟨f, args, hr, hcall⟩
    · rw [hr]
      exact hK _ _ g' (s.put ho' hod hh)
    · rw [hr]
      exact hK _ _ g' (s.put ho' hod hh)
    · rw [hr]
      refine hcall.mono fun en w' hen => ?_
      cases en with
      | returned z =>
        obtain ⟨g', ho'⟩ := hen
        exact hK _ _ g' (s.put ho' hod hh)
      | panicked c => exact hen.elim
      | outgrown => exact hen.elim
  · rename_i hw
    rw [want_sound s hd hw]
    simp only [Bool.false_eq_true, if_false]
    simp only [ret, Option.some.injEq] at e
    subst e
    exact hK _ _ g (s.put (b := st.nx + 64 * i) (Out.same s.m rfl (.pure .undef)) hod hh)
  · cases e

theorem wpOps_step {ops : Array Oper} {Q : Exit → Act → World → Prop} {i : Nat} {rest : List Nat} {a : Act} (h : wpOp P ops Q i (wpOps P ops Q rest) a w) : wpOps P ops Q (i :: rest) a w := by
  rw [wpOps_cons]; exact h

/-- A region whose order is the text's. -/
theorem seq_sound {E : Env} {call : FuncId → List V → Option Res} (hc : ∀ f vals r, call f vals = some r → CallOk E.P f vals r) {ops : Array Oper} (hd : ∀ o, o ∈ ops.toList → ∀ t, o.dst = some t → t < B.nt) {Q : Exit → Act → World → Prop} :
    ∀ (rest : List Oper) (i : Nat) (st : St) (acc : List D) (st' : St) (ds : List D) (a : Act) (w : World) (g : Gh), (∀ k (hk : k < rest.length), ops[i + k]? = some rest[k]) → runO E B.strict call ops.toList rest i st acc = some (st', ds) →
      SR B st.fr st.H (fun id => id < st.nx + 64 * i) a w g → (∀ a' w' g', SR B st'.fr st'.H (fun id => id < st'.nx) a' w' g' → Q .normal a' w') → wpOps E.P ops Q (List.range' i rest.length) a w
  | [], i, st, acc, st', ds, a, w, g, _, e, s, hQ => by
    simp only [runO, Option.some.injEq, Prod.mk.injEq] at e
    obtain ⟨rfl, rfl⟩ := e
    exact hQ a w g s
  | o :: rest, i, st, acc, st', ds, a, w, g, hops, e, s, hQ => by
    simp only [runO] at e
    split at e
    · rename_i d hd'
      rw [List.length_cons, List.range'_succ]
      refine wpOps_step (step_sound hc hd (hops 0 (by simp)) hd' s (fun id h1 _ => ?_) (hi' := fun id => id < st.nx + 64 * (i + 1)) (fun id h => by rcases h with h | h <;> omega) fun a' w' g' s' => ?_)
      · cases hj : g.J id with
        | none => rfl
        | some x =>
          have := s.ids id (by rw [hj]; simp)
          omega
      · exact seq_sound hc hd rest (i + 1) (st.app o.dst d) _ st' ds a' w' g' (fun k hk => by
          have := hops (k + 1) (by simpa using hk)
          rw [show i + 1 + k = i + (k + 1) by omega]
          exact this) e s' hQ
    · cases e
end

end Go.Proofs.Ytclebbjpacpbmaa.Ev
