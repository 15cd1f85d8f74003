/- The abstract interpreter: code. functions. what a call comes to, in the model. a law that answers true. Conditions: none. -/
import Derived.Test.YtacfkfdnncgjcaaEvV
import Derived.Scope
import Derived.Test.YtacfkfdnncgjcaaEvC
import Derived.Below
import Derived.ChangeSlices
import Derived.Laws.World
section
set_option linter.unusedVariables false
set_option linter.unusedSimpArgs false
namespace Go.Proofs.Ytacfkfdnncgjcaa.Ev
open Go

def itemOk (nt : Nat) : Item → Bool
  | .code c | .inLoop c | .inScope c => codeOk nt c
  | _ => true

theorem exitTo_ok {nt l : Nat} : ∀ {k k' : List Item}, exitTo l k = some k' → k.all (itemOk nt) = true → k'.all (itemOk nt) = true
  | [], k', h, _ => by simp [exitTo] at h
  | x :: k, k', h, hk => by
    simp only [List.all_cons, Bool.and_eq_true] at hk
    cases x <;> simp only [exitTo] at h <;> first
      | exact exitTo_ok h hk.2
      | (split at h
         · injection h with h; subst h; exact hk.2
         · exact exitTo_ok h hk.2)

theorem findLabel_ok {nt : Nat} : ∀ {c : Code} {l : Nat} {r : Code}, findLabel c l = some r → codeOk nt c = true → codeOk nt r = true := by
  intro c
  induction c with
  | seq a b iha ihb =>
    intro l r h hc
    simp only [codeOk, Bool.and_eq_true] at hc
    simp only [findLabel] at h
    split at h
    · rename_i rest hr
      injection h with h
      subst h
      simp only [codeOk, Bool.and_eq_true]
      exact ⟨iha hr hc.1, hc.2⟩
    · exact ihb h hc.2
  | label l' =>
    intro l r h hc
    simp only [findLabel] at h
    split at h
    · injection h with h; subst h; rfl
    · cases h
  | _ => intro l r h hc; simp [findLabel] at h

theorem gotoIn_ok {nt l : Nat} : ∀ {k k' : List Item}, gotoIn l k = some k' → k.all (itemOk nt) = true → k'.all (itemOk nt) = true
  | [], k', h, _ => by simp [gotoIn] at h
  | x :: k, k', h, hk => by
    have hk0 := hk
    simp only [List.all_cons, Bool.and_eq_true] at hk
    cases x <;> simp only [gotoIn] at h <;> first
      | exact gotoIn_ok h hk.2
      | (split at h
         · rename_i rest hr
           injection h with h
           subst h
           simp only [List.all_cons, Bool.and_eq_true]
           exact ⟨findLabel_ok hr hk.1, hk.1, hk.2⟩
         · exact gotoIn_ok h hk.2)

section
variable {B : Beg} {P : Program}

/-- A region, as a step of the machine. -/
theorem region_sound {E : Env} {call : FuncId → List V → Option Res} (hm : E.P.follows .mixedOrders = true) (hc : ∀ f vals r, call f vals = some r → CallOk E.P f vals r) {id : Nat} {ops : Array Oper} {draw : Bool} (hok : codeOk B.nt (.region id ops draw) = true)
    {st st' : St} {ds : List D} {a : Act} {w : World} {g : Gh} (s : SR B st.fr st.H (fun id => id < st.nx) a w g) (e : runO E B.strict call ops.toList ops.toList 0 st [] = some (st', ds)) (hdr : draw = true → (statOk ops.toList && pairsOk E.modes ops.toList ds) = true)
    (b : Frame) (k : List Item) (cs : List Frame) : ∃ a' w' g', Steps E.P (lone (b.at a (.code (.region id ops draw) :: k)) cs w) (lone (b.at a' k) cs w') ∧ SR B st'.fr st'.H (fun id => id < st'.nx) a' w' g' := by
  have hd : ∀ o, o ∈ ops.toList → ∀ t, o.dst = some t → t < B.nt := fun o ho t ht => by
    simp only [codeOk] at hok
    have := List.all_eq_true.1 hok o ho
    simpa [ht] using this
  cases draw with
  | false =>
    have h := seq_sound hc hd (Q := fun e a' w' => e = .normal ∧ ∃ g', SR B st'.fr st'.H (fun id => id < st'.nx) a' w' g') ops.toList 0 st [] st' ds a w g (fun k hk => by
      rw [Nat.zero_add, Array.getElem?_eq_getElem (by simpa using hk)]
      simp) e (by simpa using s) (fun a' w' g' s' => ⟨rfl, g', s'⟩)
    rw [← List.range_eq_range', Array.length_toList] at h
    obtain ⟨en, a', w', ⟨rfl, g', s'⟩, harr⟩ := wp_ops _ a w h b k cs
    exact ⟨a', w', g', .head step_region harr, s'⟩
  | true =>
    have hdr' := hdr rfl
    rw [Bool.and_eq_true] at hdr'
    obtain ⟨hl, hst', hev⟩ := runO_stL (st0 := st) ops.toList 0 st [] st' ds (fun k hk => by rw [Nat.zero_add, List.getElem?_eq_getElem hk]) rfl rfl (fun k hk => by omega) e
    simp only [Nat.zero_add, Array.length_toList] at hl hst' hev
    obtain ⟨m1, p1⟩ := s.m.drew (w' := { w with drawn := w.drawn + 1 }) rfl rfl rfl rfl
    have hL0 : ∀ k, (Array.replicate ops.size false).getD k false = false := fun k => by
      simp only [Array.getD]
      split
      · simp
      · rfl
    have e0 : stL ops.toList ds st (fun k => (Array.replicate ops.size false).getD k false) ops.size = st := by
      have : ∀ n, stL ops.toList ds st (fun k => (Array.replicate ops.size false).getD k false) n = st := fun n => by
        induction n with
        | zero => rfl
        | succ n ih => rw [stL_no (L := fun k => (Array.replicate ops.size false).getD k false) (hL0 n), ih]
      exact this _
    have s1 : SR B st.fr st.H (fun id => id < st.nx) a { w with drawn := w.drawn + 1 } g := ⟨s.df, s.sz, fun t => (s.sl t).mono p1, s.ids, m1, fun p hp => (s.kp p hp).mono p1⟩
    have h := any_sound (B := B) hc hd hl hev hdr'.1 hdr'.2 (Q := fun e a' w' => e = .normal ∧ ∃ g', SR B st'.fr st'.H (fun id => id < st'.nx) a' w' g') (fun a' w' g' s' => ⟨rfl, g', by
        rw [hst']; exact s'⟩) ops.size (Array.replicate ops.size false) a { w with drawn := w.drawn + 1 } g (by simp) (fun k o _ hLk => by
        have := (hL0 k).symm.trans hLk
        cases this) (cnt_le _ _) (by
        rw [e0]
        exact ⟨s1.df, s1.sz, s1.sl, fun id h => .inl (s1.ids id h), s1.m, s1.kp⟩)
    obtain ⟨en, a', w', ⟨rfl, g', s'⟩, harr⟩ := (wp_region_any (id := id) hm h) b k cs
    exact ⟨a', w', g', harr, s'⟩

theorem runO_rs {E : Env} {strict : Bool} {call : FuncId → List V → Option Res} {ops : List Oper} : ∀ (rest : List Oper) (i : Nat) (st st' : St) (acc ds : List D), runO E strict call ops rest i st acc = some (st', ds) → st'.rs = st.rs
  | [], i, st, st', acc, ds, h => by
    simp only [runO, Option.some.injEq, Prod.mk.injEq] at h
    rw [← h.1]
  | o :: rest, i, st, st', acc, ds, h => by
    simp only [runO] at h
    split at h
    · have := runO_rs rest _ _ _ _ _ h
      exact this
    · cases h
theorem headSt_rs (E : Env) (items : List Item) (st : St) : (headSt E items st).rs = st.rs := by
  unfold headSt
  split
  · unfold Ev.canon canonW
    split <;> rfl
  · rfl
theorem head_sound {E : Env} {st : St} {a : Act} {w : World} {g : Gh} (s : SR B st.fr st.H (fun id => id < st.nx) a w g) (hk : E.reb = true → ∀ p, p ∈ B.keep → noId depth p.1 = true ∨ (p.1 = .ptr 0 0 0 ∧ st.rs.testBit 0 = true)) (items : List Item) :
    ∃ g', SR B (headSt E items st).fr (headSt E items st).H (fun id => id < (headSt E items st).nx) a w g' := by
  unfold headSt
  split
  · rename_i hr
    exact s.canon (hk hr) _
  · exact ⟨g, s⟩

/-- Code. -/
theorem exec_sound {E : Env} {call : FuncId → List V → Option Res} (hm : E.P.follows .mixedOrders = true) (hc : ∀ f vals r, call f vals = some r → CallOk E.P f vals r) {rs : Nat} (hkp : E.reb = true → ∀ p, p ∈ B.keep → noId depth p.1 = true ∨ (p.1 = .ptr 0 0 0 ∧ rs.testBit 0 = true)) (b : Frame) (cs : List Frame) :
    ∀ (n : Nat) (items : List Item) (st st' : St) (a : Act) (w : World) (g : Gh), execL E B.strict call n items st = some st' → SR B st.fr st.H (fun id => id < st.nx) a w g → items.all (itemOk B.nt) = true → st.rs = rs →
      ∃ a' w' g' todo, Steps E.P (lone (b.at a items) cs w) (lone { b.at a' todo with mode := .returning } cs w') ∧ SR B st'.fr st'.H (fun id => id < st'.nx) a' w' g' := by
  intro n
  induction n with
  | zero => intro items st st' a w g e; simp [execL] at e
  | succ n ih =>
    intro items st st' a w g e s hok hrs
    unfold execL at e
    have one : ∀ {items' : List Item} {a' : Act} {w' : World} {g' : Gh} {st1 : St}, Steps E.P (lone (b.at a items) cs w) (lone (b.at a' items') cs w') → execL E B.strict call n items' st1 = some st' → SR B st1.fr st1.H (fun id => id < st1.nx) a' w' g' → items'.all (itemOk B.nt) = true → (hq : st1.rs = st.rs := by rfl) →
        ∃ a' w' g' todo, Steps E.P (lone (b.at a items) cs w) (lone { b.at a' todo with mode := .returning } cs w') ∧ SR B st'.fr st'.H (fun id => id < st'.nx) a' w' g' := fun hs e s ho hq => by
      obtain ⟨a', w', g', todo, h1, h2⟩ := ih _ _ _ _ _ _ e s ho (hq.trans hrs)
      exact ⟨a', w', g', todo, hs.trans h1, h2⟩
    split at e
    · injection e with e
      subst e
      exact ⟨a, w, g, [], .one step_end, s⟩
    · injection e with e
      subst e
      exact ⟨a, w, g, _, .one step_ret, s⟩
    all_goals try simp only [List.all_cons, Bool.and_eq_true, itemOk, codeOk] at hok
    · exact one (.one step_skip) e s hok.2
    · exact one (.one step_label) e s hok.2
    · exact one (.one step_inBlock) e s hok.2
    · exact one (.one step_inScope) e s hok.2
    · exact one (.one step_seq) e s (by simp only [List.all_cons, Bool.and_eq_true, itemOk]; exact ⟨hok.1.1, hok.1.2, hok.2⟩)
    · split at e
      · rename_i t ht
        refine one (.one (step_cond (t := t) (ev_sound s.sl ht).bool_inv)) e s ?_
        simp only [List.all_cons, Bool.and_eq_true, itemOk]
        refine ⟨?_, hok.2⟩
        cases t
        · exact hok.1.2
        · exact hok.1.1
      · cases e
    · exact one (.one step_block) e s (by simp only [List.all_cons, Bool.and_eq_true, itemOk]; exact ⟨hok.1, trivial, hok.2⟩)
    · obtain ⟨g', s'⟩ := head_sound s (by rw [hrs]; exact hkp) _
      exact one (.one step_loop) e s' (by simp only [List.all_cons, Bool.and_eq_true, itemOk]; exact ⟨hok.1, hok.1, hok.2⟩) (headSt_rs ..)
    · obtain ⟨g', s'⟩ := head_sound s (by rw [hrs]; exact hkp) _
      exact one (.one step_inLoop) e s' (by simp only [List.all_cons, Bool.and_eq_true, itemOk]; exact ⟨hok.1, hok.1, hok.2⟩) (headSt_rs ..)
    · exact one (.one step_scope) e s (by simp only [List.all_cons, Bool.and_eq_true, itemOk]; exact ⟨hok.1, hok.1, hok.2⟩)
    · split at e
      · rename_i k' hk
        exact one (.one (step_exit hk)) e s (exitTo_ok hk hok.2)
      · cases e
    · split at e
      · rename_i k' hk
        exact one (.one (step_goto hk)) e s (gotoIn_ok hk hok.2)
      · cases e
    · rename_i rid ops draw k
      split at e
      · rename_i st1 ds hr
        split at e
        · cases e
        · rename_i hdr
          obtain ⟨a', w', g', hs, s'⟩ := region_sound (id := rid) (ops := ops) (draw := draw) hm hc (by simpa only [codeOk] using hok.1) s hr (fun hd => by
            rw [hd] at hdr
            simpa using hdr) b _ cs
          exact one hs e s' hok.2 (runO_rs _ _ _ _ _ _ hr)
      · cases e
    · cases e
end

end Go.Proofs.Ytacfkfdnncgjcaa.Ev
end

section
set_option linter.unusedVariables false
set_option linter.unusedSimpArgs false
namespace Go.Proofs.Ytacfkfdnncgjcaa.Ev
open Go

section
variable {B : Beg} {H : Nat → Option Ob} {w : World} {g : Gh} {P : Program} {b : Nat}

/-! ### Results -/
theorem loadD_wr {t : TypeId} {a : V} {d : D} (h : loadD P false H b t a = some d) : d.wr = [] := by
  unfold loadD at h
  split at h
  · cases h
  · split at h
    · split at h
      · split at h
        · split at h
          · simp only [Bool.false_and, Bool.false_eq_true, if_false] at h
            obtain ⟨_, _, rfl⟩ := Option.map_eq_some_iff.1 h
            rfl
          · cases h
        · obtain ⟨c, _, h⟩ := Option.bind_eq_some_iff.1 h
          simp only [Bool.false_and, Bool.false_eq_true, if_false] at h
          obtain ⟨_, _, rfl⟩ := Option.map_eq_some_iff.1 h
          rfl
      · cases h
    · split at h
      · split at h
        · simp only [ret, Option.some.injEq] at h; subst h; rfl
        · cases h
      · obtain ⟨c, _, h⟩ := Option.bind_eq_some_iff.1 h
        simp only [ret, Option.some.injEq] at h; subst h; rfl
    · cases h

theorem loadD_b {t : TypeId} {a : V} (b' : Nat) : loadD P false H b t a = loadD P false H b' t a := by
  unfold loadD
  simp only [Bool.false_and, Bool.false_eq_true, if_false]

def resSem (a : Act) : ResultVar → Sem Value
  | .tmp t => pure (a.tmps.getD t Go.undef)
  | .cell x t => do loadVar t (← asAddr (a.tmps.getD x Go.undef))

theorem results_sound {st : St} {a : Act} (hH : st.H = H) : ∀ {rs : List ResultVar} {vs : List V} {g : Gh} {N : Nat}, rs.mapM (resV P B.strict st) = some vs → MR B H w g → (∀ t, VR w g.S g.J H (st.fr t) (a.tmps.getD t Go.undef)) → (∀ id, g.J id ≠ none → id < N) →
    ∃ (zs : List Value) (g' : Gh), (rs.mapM (resSem a)).run P w = .ok zs w ∧ MR B H w g' ∧ Pers w g.S g.J H w g'.S g'.J H ∧ vs.length = zs.length ∧ ∀ k (hk : k < vs.length) (hk' : k < zs.length), VR w g'.S g'.J H vs[k] zs[k]
  | [], vs, g, N, h, m, sl, hnx => by
    simp at h
    subst h
    exact ⟨[], g, rfl, m, .refl .., rfl, fun k hk => by simp at hk⟩
  | r :: rs, vs, g, N, h, m, sl, hnx => by
    obtain ⟨v, vr, h1, h2, rfl⟩ := mapM_cons_some h
    have head : ∃ z g1 N1, (resSem a r).run P w = .ok z w ∧ MR B H w g1 ∧ Pers w g.S g.J H w g1.S g1.J H ∧ VR w g1.S g1.J H v z ∧ (∀ id, g1.J id ≠ none → id < N1) := by
      cases r with
      | tmp t =>
        simp only [resV, Option.some.injEq] at h1
        subst h1
        exact ⟨_, g, N, rfl, m, .refl .., sl t, hnx⟩
      | cell x t =>
        simp only [resV] at h1
        cases hst : B.strict with
        | true => rw [hst] at h1; simp at h1
        | false =>
          rw [hst] at h1
          simp only [Bool.false_eq_true, if_false] at h1
          split at h1
          · rename_i d hd
            simp only [Option.some.injEq] at h1
            subst h1
            rw [hH, loadD_b N] at hd
            have hwr := loadD_wr hd
            obtain ⟨z, g1, hr, o⟩ := load_sound (b := N) m (fun id h _ => by
              cases hj : g.J id with
              | none => rfl
              | some _ => have := hnx id (by rw [hj]; simp); omega) (by rw [hst]; exact hd) (sl x)
            have e : appW H d.wr = H := by rw [hwr]; rfl
            have om := o.m; have op := o.p; have ov := o.v
            rw [e] at om op ov
            refine ⟨z, g1, N + 64, ?_, om, op, ov, fun id hid => ?_⟩
            · have hp : ∃ ad, a.tmps.getD x Go.undef = .pointer (some ad) := by
                unfold Instr.loadAt Instr.sureAddr at hr
                split at hr
                · exact ⟨_, by assumption⟩
                · cases hr
              obtain ⟨ad, hp⟩ := hp
              rw [hp] at hr
              show (do loadVar t (← asAddr (a.tmps.getD x Go.undef)) : Sem Value).run P w = .ok z w
              rw [hp]
              simpa [Instr.loadAt, Instr.sureAddr, asAddr] using hr
            · rcases o.ids id hid with h | h
              · have := hnx id h; omega
              · omega
          · cases h1
    obtain ⟨z, g1, N1, hz, m1, p1, v1, hnx1⟩ := head
    obtain ⟨zs, g2, hzs, m2, p2, l2, v2⟩ := results_sound hH h2 m1 (fun t => (sl t).mono p1) hnx1
    refine ⟨z :: zs, g2, ?_, m2, p1.trans p2, by simp [l2], fun k hk hk' => ?_⟩
    · rw [List.mapM_cons]
      simp only [Sem.run_bind, hz, Result.andThen_ok, hzs, Sem.run_pure]
    · cases k with
      | zero => exact v1.mono p2
      | succ k => exact v2 k (by simpa using hk) (by simpa using hk')

/-! ### nil slices, by their types -/
theorem normC_sound {S : Nat → Prop} {t : Option Nat} {v : V} {z : Value} {fp : List Nat} (h : TR w S v z fp) : TR w S (normC t v) z fp := by
  unfold normC
  split
  · cases h with
    | pr h => cases h; exact .unil _ _
  · exact h
theorem normC_noTup {t : Option Nat} {v : V} (h : noTup v = true) : noTup (normC t v) = true := by
  unfold normC
  split
  · rfl
  · exact h

theorem normL_len : ∀ (ts : List (Option Nat)) (vs : List V), (normL ts vs).length = vs.length
  | [], vs => by cases vs <;> rfl
  | t :: ts, [] => rfl
  | t :: ts, v :: vs => by simp [normL, normL_len ts vs]
theorem normL_at : ∀ (ts : List (Option Nat)) (vs : List V) (k : Nat) (hk : k < (normL ts vs).length) (hk' : k < vs.length), ∃ t, (normL ts vs)[k] = normC t vs[k] ∨ (normL ts vs)[k] = vs[k]
  | [], vs, k, hk, hk' => by cases vs <;> exact ⟨none, .inr rfl⟩
  | t :: ts, [], k, hk, hk' => by simp at hk'
  | t :: ts, v :: vs, 0, hk, hk' => ⟨t, .inl rfl⟩
  | t :: ts, v :: vs, k + 1, hk, hk' => normL_at ts vs k (by simpa [normL] using hk) (by simpa using hk')

theorem normA_sound {S : Nat → Prop} {ts : List (Option Nat)} {v : V} {z : Value} {fp : List Nat} (h : TR w S v z fp) : TR w S (normA ts v) z fp := by
  unfold normA
  split
  · rename_i cs
    obtain ⟨arr, fps, rfl, hl, hc, h1, rfl⟩ := h.agg_inv
    have hlen := normL_len ts cs
    rw [← hlen]
    refine .agg fps (by omega) (fun k hk => ?_) fun k hk => h1 k (by omega)
    obtain ⟨t, e | e⟩ := normL_at ts cs k hk (by omega)
    · rw [e]; exact normC_sound (hc k (by omega))
    · rw [e]; exact hc k (by omega)
  · exact normC_sound h
theorem normA_noTup {ts : List (Option Nat)} {v : V} (h : noTup v = true) : noTup (normA ts v) = true := by
  unfold normA
  split
  · rfl
  · exact normC_noTup h
theorem normR_len : ∀ (ts : List (List (Option Nat))) (vs : List V), (normR ts vs).length = vs.length
  | [], vs => by cases vs <;> rfl
  | t :: ts, [] => rfl
  | t :: ts, v :: vs => by simp [normR, normR_len ts vs]
theorem normR_at : ∀ (ts : List (List (Option Nat))) (vs : List V) (k : Nat) (hk : k < (normR ts vs).length) (hk' : k < vs.length), ∃ t, (normR ts vs)[k] = normA t vs[k] ∨ (normR ts vs)[k] = vs[k]
  | [], vs, k, hk, hk' => by cases vs <;> exact ⟨[], .inr rfl⟩
  | t :: ts, [], k, hk, hk' => by simp at hk'
  | t :: ts, v :: vs, 0, hk, hk' => ⟨t, .inl rfl⟩
  | t :: ts, v :: vs, k + 1, hk, hk' => normR_at ts vs k (by simpa [normR] using hk) (by simpa using hk')

theorem outsLen (H : Nat → Option Ob) (used : List Nat) : ∀ (b : Nat) (vs : List V), (outs H used b vs).length = vs.length
  | b, [] => rfl
  | b, v :: vs => by simp [outs, outsLen H used (b + 8) vs]
theorem outs_at (H : Nat → Option Ob) (used : List Nat) : ∀ (b : Nat) (vs : List V) (k : Nat) (hk : k < (outs H used b vs).length) (hk' : k < vs.length), (outs H used b vs)[k] = outA H used (b + 8 * k) vs[k]
  | b, [], k, hk, hk' => by simp at hk'
  | b, v :: vs, 0, hk, hk' => rfl
  | b, v :: vs, k + 1, hk, hk' => by
    have := outs_at H used (b + 8) vs k (by simpa [outs] using hk) (by simpa using hk')
    rw [show b + 8 * (k + 1) = b + 8 + 8 * k by omega]
    exact this
theorem outLLen (H : Nat → Option Ob) (used : List Nat) : ∀ (b : Nat) (vs : List V), (outL H used b vs).length = vs.length
  | b, [] => rfl
  | b, v :: vs => by simp [outL, outLLen H used (b + 1) vs]
theorem outL_at (H : Nat → Option Ob) (used : List Nat) : ∀ (b : Nat) (vs : List V) (k : Nat) (hk : k < (outL H used b vs).length) (hk' : k < vs.length), (outL H used b vs)[k] = outC H used (b + k) vs[k]
  | b, [], k, hk, hk' => by simp at hk'
  | b, v :: vs, 0, hk, hk' => rfl
  | b, v :: vs, k + 1, hk, hk' => by
    have := outL_at H used (b + 1) vs k (by simpa [outL] using hk) (by simpa using hk')
    rw [show b + (k + 1) = b + 1 + k by omega]
    exact this
/-- The objects of the k-th argument's content. -/
theorem outsI_at (H : Nat → Option Ob) : ∀ (b : Nat) (os : List V), outsI H b os = (List.range os.length).flatMap fun k => outAI H (b + 8 * k) (os.getD k .undef)
  | b, [] => rfl
  | b, o :: os => by
    rw [List.length_cons, List.range_succ_eq_map, List.flatMap_cons, List.flatMap_map]
    simp only [outsI, outsI_at H (b + 8) os]
    congr 1
    congr 1
    funext k
    rw [show b + 8 * (k + 1) = b + 8 + 8 * k by omega]
    rfl
theorem outIL_at (H : Nat → Option Ob) : ∀ (b : Nat) (os : List V), outIL H b os = (List.range os.length).flatMap fun k => outI H (b + k) (os.getD k .undef)
  | b, [] => rfl
  | b, o :: os => by
    rw [List.length_cons, List.range_succ_eq_map, List.flatMap_cons, List.flatMap_map]
    simp only [outIL, outIL_at H (b + 1) os]
    congr 1
    congr 1
    funext k
    rw [show b + (k + 1) = b + 1 + k by omega]
    rfl

theorem exp_sl_form {id ver off n : Nat} {u : V} (h : expN H depth (.sl id ver off n) = some u) : ∃ sz us, u = .uniq sz n us := by
  simp only [depth, expN] at h
  split at h
  · split at h
    · obtain ⟨us, _, rfl⟩ := Option.map_eq_some_iff.1 h
      exact ⟨_, us, rfl⟩
    · cases h
  · cases h

theorem ptrU_form {H : Nat → Option Ob} {v u : V} (h : ptrU H v = some u) : ∃ us, u = .uptr us := by
  unfold ptrU at h
  split at h
  · split at h
    · split at h
      · obtain ⟨us, _, rfl⟩ := Option.map_eq_some_iff.1 h
        exact ⟨us, rfl⟩
      · cases h
    · cases h
  · cases h

/-- The content of what was handed over: as a tree of what the frame owns. -/
theorem outC_sound (m : MR B H w g) {used : List Nat} {v : V} {z : Value} (h : VR w g.S g.J H (adoptC b v).1 z) (hn : (outI H b (outC H used b v)).Nodup) : ∃ fo, OutC w g.S (outC H used b v) z fo ∧ fo.Nodup ∧ From H g (outI H b (outC H used b v)) fo := by
  have nothing : outC H used b v = .undef → ∃ fo, OutC w g.S (outC H used b v) z fo ∧ fo.Nodup ∧ From H g (outI H b (outC H used b v)) fo := fun e => by
    rw [e]
    exact ⟨[], .inl ⟨rfl, fun cs h => (by cases h), rfl⟩, List.nodup_nil, fun c hc => by cases hc⟩
  cases v with
  | uniq sz n cs =>
    unfold outC at hn nothing ⊢
    simp only at hn nothing ⊢
    split at hn
    · rename_i ob hob
      split at hn
      · rename_i hcond
        split at hn
        · rename_i u hu
          simp only [hob, hcond, and_self, if_true, hu] at nothing ⊢
          have hform : ∃ us, u = .uniq ob.sz n us := by
            simp only [depth, expN, hob] at hu
            split at hu
            · obtain ⟨us, _, rfl⟩ := Option.map_eq_some_iff.1 hu
              exact ⟨us, rfl⟩
            · cases hu
          obtain ⟨us, rfl⟩ := hform
          obtain ⟨fo, t, n1, f1⟩ := expX_sound m h hu hn
          exact ⟨fo, .inr ⟨rfl, t⟩, n1, f1⟩
        · rename_i hu
          simp only [hob, hcond, and_self, if_true, hu] at nothing ⊢
          exact nothing trivial
      · rename_i hcond
        simp only [hob, hcond, if_false] at nothing ⊢
        exact nothing trivial
    · rename_i hob
      simp only [hob] at nothing ⊢
      exact nothing trivial
  | uptr cs =>
    by_cases hu : used.contains b = true
    · exact nothing (by show (if used.contains b then V.undef else (ptrU H (.ptr b 0 0)).getD .undef) = .undef; rw [if_pos hu])
    · cases hp : ptrU H (.ptr b 0 0) with
      | none => exact nothing (by show (if used.contains b then V.undef else (ptrU H (.ptr b 0 0)).getD .undef) = .undef; rw [if_neg hu, hp]; rfl)
      | some u =>
        have e : outC H used b (.uptr cs) = u := by show (if used.contains b then V.undef else (ptrU H (.ptr b 0 0)).getD .undef) = u; rw [if_neg hu, hp]; rfl
        rw [e]
        obtain ⟨ob, blk, us, _, hH, hlv, _, _, rfl, _, ht⟩ := ptr_sound m h hp
        exact ⟨_, .inr ⟨rfl, ht⟩, m.nd b ob hH, fun c hc => ⟨b, ob, List.mem_cons_self .., hH, hlv, hc⟩⟩
  | _ => exact nothing rfl

theorem adoptL_at : ∀ (b : Nat) (cs : List V) (k : Nat) (hk : k < (adoptL b cs).1.length) (hk' : k < cs.length), (adoptL b cs).1[k] = (adoptC (b + k) cs[k]).1
  | b, [], k, hk, hk' => by simp at hk'
  | b, c :: cs, 0, hk, hk' => rfl
  | b, c :: cs, k + 1, hk, hk' => by
    have := adoptL_at (b + 1) cs k (by have h : k + 1 < (_ :: (adoptL (b + 1) cs).1).length := hk; simpa using h) (by simpa using hk')
    rw [show b + (k + 1) = b + 1 + k by omega]
    exact this
theorem adoptT_at : ∀ (b : Nat) (cs : List V) (k : Nat) (hk : k < (adoptT b cs).1.length) (hk' : k < cs.length), (adoptT b cs).1[k] = (adoptA (b + 8 * k) cs[k]).1
  | b, [], k, hk, hk' => by simp at hk'
  | b, c :: cs, 0, hk, hk' => rfl
  | b, c :: cs, k + 1, hk, hk' => by
    have := adoptT_at (b + 8) cs k (by have h : k + 1 < (_ :: (adoptT (b + 8) cs).1).length := hk; simpa using h) (by simpa using hk')
    rw [show b + 8 * (k + 1) = b + 8 + 8 * k by omega]
    exact this
theorem adoptL_len : ∀ (b : Nat) (cs : List V), (adoptL b cs).1.length = cs.length
  | b, [] => rfl
  | b, c :: cs => by
    show (_ :: (adoptL (b + 1) cs).1).length = _
    simp [adoptL_len (b + 1) cs]

theorem outA_sound (m : MR B H w g) {used : List Nat} {v : V} {z : Value} (h : VR w g.S g.J H (adoptA b v).1 z) (hn : (outAI H b (outA H used b v)).Nodup) : ∃ fo, OutA w g.S (outA H used b v) z fo ∧ fo.Nodup ∧ From H g (outAI H b (outA H used b v)) fo := by
  by_cases e : ∃ cs, v = .agg cs
  · obtain ⟨cs, rfl⟩ := e
    have hA : outA H used b (.agg cs) = .agg (outL H used b cs) := rfl
    have hAI : outAI H b (.agg (outL H used b cs)) = outIL H b (outL H used b cs) := rfl
    rw [hA, hAI] at hn ⊢
    rw [outIL_at] at hn ⊢
    have hll := outLLen H used b cs
    rw [hll] at hn ⊢
    obtain ⟨n1, n2⟩ := nodup_fm.1 hn
    have hv : VR w g.S g.J H (.agg (adoptL b cs).1) z := h
    obtain ⟨arr, rfl, hl, hc, h1⟩ := hv.agg_inv
    have hal := adoptL_len b cs
    have hget : ∀ k, k < cs.length → (outL H used b cs).getD k .undef = outC H used (b + k) (cs.getD k .undef) := fun k hk => by
      have h1 : k < (outL H used b cs).length := by omega
      have := outL_at H used b cs k h1 hk
      simp only [List.getD_eq_getElem?_getD, List.getElem?_eq_getElem h1, List.getElem?_eq_getElem hk, Option.getD_some, this]
    have H1 : ∀ k, k < cs.length → ∃ fo, ∀ (hk : k < cs.length), OutC w g.S (outC H used (b + k) cs[k]) (arr.getD k Go.undef) fo ∧ fo.Nodup ∧ From H g (outI H (b + k) (outC H used (b + k) cs[k])) fo := fun k hk => by
      have hvk := hc k (by omega)
      rw [adoptL_at b cs k (by omega) hk] at hvk
      have hnk := n1 k hk
      rw [hget k hk] at hnk
      simp only [List.getD_eq_getElem?_getD, List.getElem?_eq_getElem hk, Option.getD_some] at hnk
      obtain ⟨fo, hfo⟩ := outC_sound m (b := b + k) (used := used) hvk hnk
      exact ⟨fo, fun _ => hfo⟩
    obtain ⟨fos, hfos⟩ := choose_fp H1
    refine ⟨(List.range cs.length).flatMap fos, .inl ⟨_, arr, fos, rfl, rfl, by omega, fun k hk => ?_, by rw [hll]⟩, nodup_fm.2 ⟨fun k hk => (hfos k hk hk).2.1, fun i j hij hj c hci hcj => ?_⟩, fun c hc' => ?_⟩
    · rw [outL_at H used b cs k hk (by omega)]
      exact (hfos k (by omega) (by omega)).1
    · refine from_apart m (hfos i (by omega) (by omega)).2.2 (hfos j hj hj).2.2 (fun a ha ha' => ?_) c hci hcj
      refine n2 i j hij hj a ?_ ?_
      · rw [hget i (by omega)]
        simpa only [List.getD_eq_getElem?_getD, List.getElem?_eq_getElem (show i < cs.length by omega), Option.getD_some] using ha
      · rw [hget j hj]
        simpa only [List.getD_eq_getElem?_getD, List.getElem?_eq_getElem hj, Option.getD_some] using ha'
    · obtain ⟨k, hk, hck⟩ := mem_fm.1 hc'
      obtain ⟨id, ob, q1, q2, q3, q4⟩ := (hfos k hk hk).2.2 c hck
      refine ⟨id, ob, mem_fm.2 ⟨k, hk, ?_⟩, q2, q3, q4⟩
      rw [hget k hk]
      simpa only [List.getD_eq_getElem?_getD, List.getElem?_eq_getElem hk, Option.getD_some] using q1
  · have hv1 : ∀ cs, v ≠ .agg cs := fun cs h => e ⟨cs, h⟩
    have e1 : outA H used b v = outC H used b v := by
      unfold outA
      split
      · exact absurd rfl (hv1 _)
      · rfl
    have e2 : adoptA b v = adoptC b v := by
      unfold adoptA
      split
      · exact absurd rfl (hv1 _)
      · rfl
    have e3 : outAI H b (outC H used b v) = outI H b (outC H used b v) := by
      unfold outAI
      split
      · rename_i cs he
        exfalso
        unfold outC at he
        split at he
        · rename_i sz n cs2
          split at he
          · split at he
            · split at he
              · rename_i u hu
                obtain ⟨_, _, hu'⟩ := exp_sl_form hu
                rw [hu'] at he
                cases he
              · cases he
            · cases he
          · cases he
        · split at he
          · cases he
          · cases hp : ptrU H (.ptr b 0 0) with
            | none => rw [hp] at he; cases he
            | some u =>
              rw [hp] at he
              obtain ⟨us, rfl⟩ := ptrU_form hp
              cases he
        · cases he
      · rfl
    rw [e1] at hn ⊢
    rw [e2] at h
    rw [e3] at hn ⊢
    obtain ⟨fo, h1, h2, h3⟩ := outC_sound m h hn
    exact ⟨fo, .inr h1, h2, h3⟩

/-- The contents of all that was handed over. -/
theorem outs_sound (m : MR B H w g) {used : List Nat} {vs : List V} {zs : Nat → Value} (h : ∀ k (hk : k < vs.length), VR w g.S g.J H (adoptA (0 + 8 * k) vs[k]).1 (zs k)) (hn : (outsI H 0 (outs H used 0 vs)).Nodup) :
    ∃ fo : Nat → List Nat, (∀ k (hk : k < (outs H used 0 vs).length), OutA w g.S (outs H used 0 vs)[k] (zs k) (fo k)) ∧ ((List.range (outs H used 0 vs).length).flatMap fo).Nodup ∧ From H g (outsI H 0 (outs H used 0 vs)) ((List.range (outs H used 0 vs).length).flatMap fo) := by
  have hl := outsLen H used 0 vs
  rw [outsI_at] at hn ⊢
  rw [hl] at hn
  obtain ⟨n1, n2⟩ := nodup_fm.1 hn
  have hget : ∀ k (hk : k < vs.length), (outs H used 0 vs).getD k .undef = outA H used (0 + 8 * k) vs[k] := fun k hk => by
    have h1 : k < (outs H used 0 vs).length := by omega
    have := outs_at H used 0 vs k h1 hk
    simp only [List.getD_eq_getElem?_getD, List.getElem?_eq_getElem h1, Option.getD_some, this]
  have H1 : ∀ k, k < vs.length → ∃ fo, ∀ (hk : k < vs.length), OutA w g.S (outA H used (0 + 8 * k) vs[k]) (zs k) fo ∧ fo.Nodup ∧ From H g (outAI H (0 + 8 * k) (outA H used (0 + 8 * k) vs[k])) fo := fun k hk => by
    have hnk := n1 k hk
    rw [hget k hk] at hnk
    obtain ⟨fo, hfo⟩ := outA_sound m (h k hk) hnk
    exact ⟨fo, fun _ => hfo⟩
  obtain ⟨fos, hfos⟩ := choose_fp H1
  refine ⟨fos, fun k hk => ?_, ?_, ?_⟩
  · rw [outs_at H used 0 vs k (by omega) (by omega)]
    exact (hfos k (by omega) (by omega)).1
  all_goals rw [hl]
  · refine nodup_fm.2 ⟨fun k hk => (hfos k hk hk).2.1, fun i j hij hj c hci hcj => ?_⟩
    refine from_apart m (hfos i (by omega) (by omega)).2.2 (hfos j hj hj).2.2 (fun a ha ha' => ?_) c hci hcj
    refine n2 i j hij hj a ?_ ?_
    · rw [hget i (by omega)]; exact ha
    · rw [hget j hj]; exact ha'
  · intro c hc'
    obtain ⟨k, hk, hck⟩ := mem_fm.1 hc'
    obtain ⟨id, ob, q1, q2, q3, q4⟩ := (hfos k hk hk).2.2 c hck
    refine ⟨id, ob, mem_fm.2 ⟨k, hk, ?_⟩, q2, q3, q4⟩
    rw [hget k hk]; exact q1
end

end Go.Proofs.Ytacfkfdnncgjcaa.Ev
end

section
set_option linter.unusedVariables false
set_option linter.unusedSimpArgs false
namespace Go.Proofs.Ytacfkfdnncgjcaa.Ev
open Go

section
variable {B : Beg} {H : Nat → Option Ob} {w : World} {g : Gh} {P : Program}

def oneZ : List Value → Value
  | [z] => z
  | zs => .tuple zs.toArray

theorem results_run {fn : Func} {a : Act} {zs : List Value} (h : (fn.results.toList.mapM (resSem a)).run P w = .ok zs w) : (results fn a.tmps).run P w = .ok (oneZ zs) w := by
  have e : results fn a.tmps = (do
      let vs ← fn.results.mapM (resSem a)
      pure (if h : vs.size = 1 then vs[0] else .tuple vs)) := by
    unfold results
    congr 2
  rw [e, Array.mapM_eq_mapM_toList]
  simp only [Sem.run_bind, Sem.run_map, h, Result.andThen_ok, Sem.run_pure]
  match zs with
  | [] => rfl
  | [z] => rfl
  | z :: z2 :: zs => rfl

theorem finish_tup {strict : Bool} {fn : Func} {vals : List V} {st : St} {r : Res} (e : finish P strict fn vals st = some r) : ∀ vs, r.v = .tup vs → vs.all noTup = true := by
  have key : ∀ (es : List V), es.all noTup = true → ∀ vs, oneV es = .tup vs → vs.all noTup = true := by
    intro es h vs hv
    match es with
    | [] =>
      have : V.tup [] = .tup vs := hv
      injection this with this
      rw [← this]; rfl
    | [e] =>
      have : e = .tup vs := hv
      subst this
      simp [noTup] at h
    | e1 :: e2 :: es =>
      have : V.tup (e1 :: e2 :: es) = .tup vs := hv
      injection this with this
      rw [← this]; exact h
  have read : ∀ {vs0 : List V}, finRead strict vals st vs0 = some r → ∀ vs, r.v = .tup vs → vs.all noTup = true := fun {vs0} e => by
    unfold finRead at e
    split at e
    · rename_i es hes
      simp only at e
      split at e
      · rename_i hc
        simp only [Option.some.injEq] at e
        subst e
        simp only [Bool.and_eq_true] at hc
        exact key _ hc.2
      · cases e
    · cases e
  unfold finish at e
  split at e
  · cases e
  · rename_i vs0 hvs
    split at e
    · rename_i u hu
      unfold finPtr at e
      simp only at e
      split at e
      · simp only [Option.some.injEq] at e
        subst e
        unfold onlyP at hu
        split at hu
        · obtain ⟨us, rfl⟩ := ptrU_form hu
          intro vs h; cases h
        · cases hu
      · cases e
    split at e
    · rename_i es hes
      split at e
      · rename_i htr
        unfold finFresh at e
        simp only at e
        split at e
        · simp only [Option.some.injEq] at e
          subst e
          refine key _ ?_
          rw [List.all_eq_true]
          intro x hx
          obtain ⟨k, hk, rfl⟩ := List.getElem_of_mem hx
          have hl := normR_len (fn.resultTypes.toList.map (cellTys P)) es
          have hall := List.all_eq_true.1 htr _ (List.getElem_mem (show k < es.length by omega))
          simp only [Bool.and_eq_true] at hall
          obtain ⟨t, h | h⟩ := normR_at (fn.resultTypes.toList.map (cellTys P)) es k hk (by omega)
          · rw [h]; exact normA_noTup hall.2
          · rw [h]; exact hall.2
        · cases e
      · exact read e
    · exact read e

/-- What the objects that are given away own is not seen. -/
theorem own_notS (m : MR B H w g) {own fo : List Nat} (h : From H g own fo) (hc : (B.strict || flatO H own) = true) : ∀ c, c ∈ fo → ¬ g.S c := fun c hc' hs => by
  obtain ⟨id, ob, q1, q2, q3, q4⟩ := h c hc'
  rw [Bool.or_eq_true] at hc
  rcases hc with hc | hc
  · exact m.ms hc id ob q2 q3 c q4 hs
  · exact m.mu id ob c q2 q3 (flat_own m hc q1 q2 q4) hs

theorem from_new (m : MR B H w g) {own fo : List Nat} (h : From H g own fo) : ∀ c, c ∈ fo → c ∈ B.fp ∨ B.w.heap.size ≤ c := fun c hc => by
  obtain ⟨id, ob, _, q2, _, q4⟩ := h c hc
  exact m.new id ob q2 c q4

theorem flatO_sub {a b : List Nat} (h : ∀ i, i ∈ a → i ∈ b) (hf : flatO H b = true) : flatO H a = true := by
  unfold flatO at hf ⊢
  exact List.all_eq_true.2 fun i hi => List.all_eq_true.1 hf i (h i hi)

theorem finish_sound {fn : Func} {vals : List V} {st : St} {a : Act} {args : Nat → Value} {r : Res} (s : SR B st.fr st.H (fun id => id < st.nx) a w g) (hk : ∀ k (hk : k < vals.length), ((adoptA (0 + 8 * k) vals[k]).1, args k) ∈ B.keep) (e : finish P B.strict fn vals st = some r) :
    ∃ z S' fp fo, (results fn a.tmps).run P w = .ok z w ∧ Post B.w B.S B.fp args vals.length r z w S' fp fo := by
  unfold finish at e
  split at e
  · cases e
  · rename_i vs hvs
    obtain ⟨zs, g1, hrun, m1, p1, hl, hv⟩ := results_sound rfl hvs s.m s.sl s.ids
    have hres := results_run hrun
    have hkeep : ∀ k (hk : k < vals.length), VR w g1.S g1.J st.H (adoptA (0 + 8 * k) vals[k]).1 (args k) := fun k h => (s.kp _ (hk k h)).mono p1
    have read : finRead B.strict vals st vs = some r → ∃ z S' fp fo, (results fn a.tmps).run P w = .ok z w ∧ Post B.w B.S B.fp args vals.length r z w S' fp fo := fun e => by
      unfold finRead at e
      split at e
      · rename_i es hes
        simp only at e
        split at e
        · rename_i hc
          simp only [Option.some.injEq] at e
          subst e
          simp only [Bool.and_eq_true] at hc
          obtain ⟨⟨⟨c1, c2⟩, c3⟩, c4⟩ := hc
          obtain ⟨fo, o1, o2, o3⟩ := outs_sound m1 hkeep (nodup_of_nodupB c1)
          let S' : Nat → Prop := fun c => g1.S c ∨ RdS st.H g1 (vs.flatMap (idsN st.H depth)) c
          have hel := mapM_len hes
          have hpr : ∀ k (hk : k < es.length) (hk3 : k < zs.length), PR w S' es[k] zs[k] := fun k hk hk3 => by
            refine pur_sound m1 (S' := S') (fun c h => .inl h) depth (hv k (by omega) hk3) (mapM_at hes k (by omega) hk) fun id hid c hc => ?_
            obtain ⟨ob, ho⟩ := idsN_some depth _ id hid
            exact .inr ⟨id, ob, List.mem_flatMap.2 ⟨_, List.getElem_mem (show k < vs.length by omega), hid⟩, ho, hc⟩
          have hval : PR w S' (oneV es) (oneZ zs) := by
            have hzl : zs.length = es.length := by omega
            clear hres hrun hv hl hel hes c4
            cases es with
            | nil =>
              have h1 : zs = [] := List.eq_nil_of_length_eq_zero (by simpa using hzl)
              rw [h1]
              exact .tup rfl fun k hk => by simp at hk
            | cons n1 ns =>
              cases zs with
              | nil => simp at hzl
              | cons z1 zs =>
                cases ns with
                | nil =>
                  have h1 : zs = [] := List.eq_nil_of_length_eq_zero (by simpa using hzl)
                  subst h1
                  exact hpr 0 (by simp) (by simp)
                | cons n2 ns =>
                  cases zs with
                  | nil => simp at hzl
                  | cons z2 zs =>
                    refine .tup (by simpa using hzl.symm) fun k hk => ?_
                    have hk3 : k < (z1 :: z2 :: zs).length := by omega
                    have hg : (z1 :: z2 :: zs).toArray.getD k Go.undef = (z1 :: z2 :: zs)[k] := by
                      simp only [Array.getD, List.size_toArray, hk3, dif_pos, Array.getInternal_eq_getElem, List.getElem_toArray]
                    rw [hg]; exact hpr k hk hk3
          have hmono : ∀ {o : V} {z : Value} {f : List Nat}, OutC w g1.S o z f → OutC w S' o z f := fun h => h.imp (fun h => h) fun h => ⟨h.1, h.2.mono (fun c h => .inl h) (fun _ _ => rfl) fun _ _ => rfl⟩
          refine ⟨_, S', [], fo, hres, ⟨m1.os, m1.tape, m1.output, m1.size, m1.fm, m1.bs, fun c h => .inl (m1.s0 c h), fun c h => ?_, fun c h => ?_, .inr ⟨rfl, hval, rfl⟩, by rw [outsLen]; exact Nat.le_refl _, fun k hk => ?_, fun c hc' => ?_, ?_, fun hf c hc' hs => ?_⟩⟩
          · rcases h with h | ⟨id, ob, _, h2, h3⟩
            · exact m1.lt c h
            · exact m1.flt h2 c h3
          · rcases h with h | ⟨id, ob, _, h2, h3⟩
            · exact m1.s1 c h
            · rcases m1.new id ob h2 c h3 with h | h
              · exact .inr (.inr h)
              · exact .inr (.inl h)
          · rcases o1 k hk with ⟨os, arr, fos, h1, h2, h3, h4, h5⟩ | h
            · exact .inl ⟨os, arr, fos, h1, h2, h3, fun j hj => hmono (h4 j hj), h5⟩
            · exact .inr (hmono h)
          · rcases hc' with hc' | ⟨k, hk, hc'⟩
            · cases hc'
            · exact from_new m1 o3 c (mem_fm.2 ⟨k, hk, hc'⟩)
          · rw [List.nil_append]; exact o2
          · rcases hc' with hc' | ⟨k, hk, hc'⟩
            · cases hc'
            · have hcf := mem_fm.2 ⟨k, hk, hc'⟩
              rcases hs with hs | ⟨i, o, h1, h2, h3⟩
              · exact own_notS m1 o3 c3 c hcf hs
              · obtain ⟨id, ob, q1, q2, q3, q4⟩ := o3 c hcf
                have hne : id ≠ i := fun e => by
                  have := List.all_eq_true.1 c2 id q1
                  simp only [Bool.not_eq_true', List.contains_eq_mem, decide_eq_false_iff_not] at this
                  exact this (e ▸ h1)
                exact m1.dj id i ob o hne q2 h2 c q4 h3
        · cases e
      · cases e
    split at e
    · -- a pointer
      rename_i u hu
      obtain ⟨v, rfl⟩ : ∃ v, vs = [v] := by
        unfold onlyP at hu
        split at hu
        · exact ⟨_, rfl⟩
        · cases hu
      have hu' : ptrU st.H v = some u := hu
      unfold finPtr at e
      simp only at e
      split at e
      · rename_i hc
        simp only [Option.some.injEq] at e
        subst e
        simp only [Bool.and_eq_true, Bool.not_eq_true'] at hc
        obtain ⟨⟨c1, c2⟩, c3⟩ := hc
        have hnd := nodup_of_nodupB c1
        rw [List.nodup_append] at hnd
        obtain ⟨hu1, ho, huo⟩ := hnd
        obtain ⟨fo, o1, o2, o3⟩ := outs_sound m1 hkeep ho
        obtain ⟨z, rfl⟩ : ∃ z, zs = [z] := by
          match zs, hl with
          | [z], _ => exact ⟨z, rfl⟩
        have hv0 := hv 0 (by simp) (by simp)
        simp only [List.getElem_cons_zero] at hv0
        obtain ⟨id, ver, off, rfl⟩ : ∃ id ver off, v = .ptr id ver off := by
          unfold ptrU at hu'
          split at hu'
          · exact ⟨_, _, _, rfl⟩
          · cases hu'
        obtain ⟨ob, blk, us, rfl, hH, hlv, hJ, hz, rfl, _, ht⟩ := ptr_sound m1 hv0 hu'
        have hfrom : From st.H g1 [id] (g1.F id) := fun c hc => ⟨id, ob, List.mem_cons_self .., hH, hlv, hc⟩
        have husd : (([V.ptr id ver 0] : List V).flatMap (ownI st.H)) = [id] := rfl
        rw [husd] at c2 huo o1 o2 o3 c3 hu1 ho
        rw [husd]
        have sub : ∀ {l : List Nat}, (∀ i, i ∈ l → i ∈ [id] ++ outsI st.H 0 (outs st.H [id] 0 vals)) → (B.strict || flatO st.H l) = true := fun {l} h => by
          rw [Bool.or_eq_true] at c2 ⊢
          exact c2.imp (fun h => h) fun hf => flatO_sub h hf
        have hml : ((outs st.H [id] 0 vals).map anyU).length = (outs st.H [id] 0 vals).length := List.length_map _
        have hany : ∀ {o : V} {z : Value} {f : List Nat}, OutA w g1.S o z f → OutA w g1.S (anyU o) z f := fun {o z f} h => by
          by_cases e : o = .undef
          · subst e
            rcases h with ⟨os, arr, fos, h, _⟩ | h | ⟨h, _⟩
            · cases h
            · exact .inr (.inl ⟨rfl, fun cs h => (by cases h), h.2.2⟩)
            · cases h
          · have : anyU o = o := by unfold anyU; split; exact absurd rfl e; rfl
            rw [this]; exact h
        refine ⟨_, g1.S, g1.F id, fo, hres, ⟨m1.os, m1.tape, m1.output, m1.size, m1.fm, m1.bs, m1.s0, m1.lt, m1.s1, .inl ⟨rfl, ht, fun h => by simp only at h; rw [c3] at h; cases h⟩, by simp only; rw [hml, outsLen]; exact Nat.le_refl _, fun k hk => ?_, fun c hc' => ?_, ?_, fun hf c hc' => ?_⟩⟩
        · simp only at hk ⊢
          rw [List.getElem_map]
          exact hany (o1 k (by rw [hml] at hk; exact hk))
        · simp only [hml] at hc'
          rcases hc' with hc' | ⟨k, hk, hc'⟩
          · exact from_new m1 hfrom c hc'
          · exact from_new m1 o3 c (mem_fm.2 ⟨k, hk, hc'⟩)
        · simp only [hml]
          rw [List.nodup_append]
          exact ⟨m1.nd id ob hH, o2, fun x hx y hy e => from_apart m1 hfrom o3 (fun i hi hi' => huo i hi i hi' rfl) x hx (e ▸ hy)⟩
        · simp only [hml] at hc'
          rcases hc' with hc' | ⟨k, hk, hc'⟩
          · exact own_notS m1 hfrom (sub fun i hi => List.mem_append.2 (.inl hi)) c hc'
          · exact own_notS m1 o3 (sub fun i hi => List.mem_append.2 (.inr hi)) c (mem_fm.2 ⟨k, hk, hc'⟩)
      · cases e
    split at e
    · -- a result that is new
      rename_i es hes
      split at e
      · rename_i htr
        unfold finFresh at e
        simp only at e
        split at e
        · rename_i hc
          simp only [Option.some.injEq] at e
          subst e
          simp only [Bool.and_eq_true] at hc
          have hnd := nodup_of_nodupB hc.1
          rw [List.nodup_append] at hnd
          obtain ⟨hu, ho, huo⟩ := hnd
          obtain ⟨fo, o1, o2, o3⟩ := outs_sound m1 hkeep ho
          have hel := mapM_len hes
          obtain ⟨n1, n2⟩ := nodup_flatMap_at hu
          have H1 : ∀ k, k < es.length → ∃ f, ∀ (hk : k < es.length) (hk2 : k < vs.length) (hk3 : k < zs.length), TR w (fun _ => False) es[k] zs[k] f ∧ f.Nodup ∧ From st.H g1 (eidN st.H depth vs[k]) f := fun k hk => by
            obtain ⟨f, t1, t2, t3⟩ := expX_sound m1 (hv k (by omega) (by omega)) (mapM_at hes k (by omega) hk) (n1 k (by omega))
            have hall := List.all_eq_true.1 htr _ (List.getElem_mem hk)
            simp only [Bool.and_eq_true] at hall
            exact ⟨f, fun _ _ _ => ⟨t1.strict _ hall.1, t2, t3⟩⟩
          obtain ⟨fps, hfps⟩ := choose_fp H1
          have hfps' : ∀ k (hk : k < es.length), TR w (fun _ => False) es[k] (zs[k]'(by omega)) (fps k) ∧ (fps k).Nodup ∧ From st.H g1 (eidN st.H depth (vs[k]'(by omega))) (fps k) := fun k hk => hfps k hk hk (by omega) (by omega)
          have hfrom : From st.H g1 (vs.flatMap (eidN st.H depth)) ((List.range es.length).flatMap fps) := fun c hc => by
            obtain ⟨k, hk, hc⟩ := mem_fm.1 hc
            obtain ⟨id, ob, q1, q2, q3, q4⟩ := (hfps' k hk).2.2 c hc
            exact ⟨id, ob, List.mem_flatMap.2 ⟨_, List.getElem_mem (show k < vs.length by omega), q1⟩, q2, q3, q4⟩
          have hndf : ((List.range es.length).flatMap fps).Nodup := nodup_fm.2 ⟨fun k hk => (hfps' k hk).2.1, fun i j hij hj c hci hcj => from_apart m1 (hfps' i (by omega)).2.2 (hfps' j hj).2.2 (n2 i j (by omega) (by omega) (by omega)) c hci hcj⟩
          -- the value
          let ts := fn.resultTypes.toList.map (cellTys P)
          have hnl := normR_len ts es
          have hnorm : ∀ k (hk : k < (normR ts es).length) (hk3 : k < zs.length), TR w (fun _ => False) (normR ts es)[k] zs[k] (fps k) := fun k hk hk3 => by
            have h0 := (hfps' k (by omega)).1
            obtain ⟨t, h | h⟩ := normR_at ts es k hk (by omega)
            · rw [h]; exact normA_sound h0
            · rw [h]; exact h0
          have hval : TR w (fun _ => False) (oneV (normR ts es)) (oneZ zs) ((List.range es.length).flatMap fps) := by
            have hzl : zs.length = (normR ts es).length := by omega
            generalize normR ts es = ns at hnorm hnl hzl
            clear hres hrun hv H1 hfps hfps' hl
            cases ns with
            | nil =>
              have h1 : zs = [] := List.eq_nil_of_length_eq_zero (by simpa using hzl)
              have h2 : es.length = 0 := by simpa using hnl.symm
              rw [h1, h2]
              exact .tup fps rfl fun k hk => by simp at hk
            | cons n1 ns =>
              cases zs with
              | nil => simp at hzl
              | cons z1 zs =>
                cases ns with
                | nil =>
                  have h1 : zs = [] := List.eq_nil_of_length_eq_zero (by simpa using hzl)
                  subst h1
                  have h2 : es.length = 1 := by simpa using hnl.symm
                  rw [h2]
                  have := hnorm 0 (by simp) (by simp)
                  simpa [oneV, oneZ] using this
                | cons n2 ns =>
                  cases zs with
                  | nil => simp at hzl
                  | cons z2 zs =>
                    rw [← hnl]
                    refine .tup fps (by simpa using hzl.symm) fun k hk => ?_
                    have hk3 : k < (z1 :: z2 :: zs).length := by omega
                    have := hnorm k hk hk3
                    have hg : (z1 :: z2 :: zs).toArray.getD k Go.undef = (z1 :: z2 :: zs)[k] := by
                      simp only [Array.getD, List.size_toArray, hk3, dif_pos, Array.getInternal_eq_getElem, List.getElem_toArray]
                    rw [hg]; exact this
          refine ⟨_, g1.S, (List.range es.length).flatMap fps, fo, hres, ⟨m1.os, m1.tape, m1.output, m1.size, m1.fm, m1.bs, m1.s0, m1.lt, m1.s1, .inl ⟨rfl, hval.mono (fun _ h => h.elim) (fun _ _ => rfl) fun _ _ => rfl, fun _ => hval⟩, by rw [outsLen]; exact Nat.le_refl _, fun k hk => o1 k hk, fun c hc' => ?_, ?_, fun hf c hc' => ?_⟩⟩
          · rcases hc' with hc' | ⟨k, hk, hc'⟩
            · exact from_new m1 hfrom c hc'
            · exact from_new m1 o3 c (mem_fm.2 ⟨k, hk, hc'⟩)
          · rw [List.nodup_append]
            exact ⟨hndf, o2, fun x hx y hy e => from_apart m1 hfrom o3 (fun i hi hi' => huo i hi i hi' rfl) x hx (e ▸ hy)⟩
          · have hst : (B.strict || flatO st.H (vs.flatMap (eidN st.H depth) ++ outsI st.H 0 (outs st.H (vs.flatMap (eidN st.H depth)) 0 vals))) = true := by
              have h2 := hc.2
              rw [Bool.or_assoc, Bool.or_eq_true] at h2
              rcases h2 with h2 | h2
              · simp only [Bool.true_and] at hf
                rw [h2] at hf; cases hf
              · exact h2
            have sub : ∀ {l : List Nat}, (∀ i, i ∈ l → i ∈ vs.flatMap (eidN st.H depth) ++ outsI st.H 0 (outs st.H (vs.flatMap (eidN st.H depth)) 0 vals)) → (B.strict || flatO st.H l) = true := fun {l} h => by
              rw [Bool.or_eq_true] at hst ⊢
              exact hst.imp (fun h => h) fun hf => flatO_sub h hf
            rcases hc' with hc' | ⟨k, hk, hc'⟩
            · exact own_notS m1 hfrom (sub fun i hi => List.mem_append.2 (.inl hi)) c hc'
            · exact own_notS m1 o3 (sub fun i hi => List.mem_append.2 (.inr hi)) c (mem_fm.2 ⟨k, hk, hc'⟩)
        · cases e
      · exact read e
    · exact read e
end

/-! ### A function -/
/-- What is taken to be so of the functions that are not run by their text. -/
def PrimsOk (E : Env) : Prop := ∀ f vals r, E.prim f vals = some r → CallOk E.P f vals r

/-- A result that is taken as one that is only read. -/
def tupOk : V → Bool
  | .tup vs => vs.all noTup
  | _ => true
def lowerR (r : Res) : Option Res := match purN (fun _ => none) depth r.v with
  | some v => if tupOk v then some { fresh := false, v := v, outs := [] } else none
  | none => none
theorem CallOk.lower {P : Program} {f : FuncId} {vals : List V} {r r' : Res} (h : CallOk P f vals r) (e : lowerR r = some r') : CallOk P f vals r' := by
  unfold lowerR at e
  split at e
  · rename_i v hv
    split at e
    · rename_i ht
      simp only [Option.some.injEq] at e
      subst e
      refine ⟨fun vs hvs => ?_, fun w S args fps h1 h2 h3 h4 h5 h6 => ?_⟩
      · simp only at hvs
        subst hvs; exact ht
      · refine (h.2 w S args fps h1 h2 h3 h4 h5 h6).mono ?_
        rintro z w' ⟨S', fp, fo, po⟩
        have hlt : ∀ b, b ∈ fp → b < w'.heap.size := fun b hb => by
          rcases po.val with ⟨_, ht, _⟩ | ⟨_, _, hf⟩
          · exact ht.lt b hb
          · rw [hf] at hb; cases hb
        have hval : PR w' (fun b => S' b ∨ b ∈ fp) v z := by
          rcases po.val with ⟨_, ht, _⟩ | ⟨_, hp, _⟩
          · exact ht.pur (fun b hb => .inl hb) (fun b hb => .inr hb) hv
          · exact hp.pur (fun b hb => .inl hb) depth hv
        refine ⟨fun b => S' b ∨ b ∈ fp, [], fun _ => [], ⟨po.os, po.tape, po.output, po.size, po.fm, po.bs, fun b hb => .inl (po.hS b hb), fun b hb => ?_, fun b hb => ?_, .inr ⟨rfl, hval, rfl⟩, Nat.zero_le _, fun k hk => by simp at hk, fun b hb => ?_, by simp, fun _ b hb => ?_⟩⟩
        · rcases hb with hb | hb
          · exact po.hlt b hb
          · exact hlt b hb
        · rcases hb with hb | hb
          · exact po.hs1 b hb
          · rcases po.new b (.inl hb) with h | h
            · exact .inr (.inr h)
            · exact .inr (.inl h)
        · rcases hb with hb | ⟨k, hk, _⟩
          · cases hb
          · simp at hk
        · rcases hb with hb | ⟨k, hk, _⟩
          · cases hb
          · simp at hk
    · cases e
  · cases e

theorem keep_pin {l : List V} {rs : Nat} (hok : (match (generalizing := false) l with
    | .ptr 0 0 0 :: vs => vs.all (noId depth)
    | vs => vs.all (noId depth)) = true) (hp : (match (generalizing := false) l with
    | .ptr 0 0 0 :: _ => true
    | _ => false) = true → rs.testBit 0 = true) {k : Nat} (hk : k < l.length) : noId depth l[k] = true ∨ (l[k] = .ptr 0 0 0 ∧ rs.testBit 0 = true) := by
  split at hok
  · rename_i vs
    cases k with
    | zero => exact .inr ⟨rfl, hp rfl⟩
    | succ k => exact .inl (List.all_eq_true.1 hok _ (List.getElem_mem (by simpa using hk)))
  · exact .inl (List.all_eq_true.1 hok _ (List.getElem_mem hk))

theorem callF_sound {E : Env} (hm : E.P.follows .mixedOrders = true) (hp : PrimsOk E) : ∀ (n : Nat) (f : FuncId) (vals : List V) (r : Res), callF E n f vals = some r → CallOk E.P f vals r := by
  intro n
  induction n with
  | zero => intro f vals r e; simp [callF] at e
  | succ n ih =>
    intro f vals r e
    unfold callF at e
    split at e
    · rename_i r' hr
      injection e with e
      subst e
      exact hp f vals _ hr
    · split at e
      · rename_i fn hfn
        split at e
        · rename_i c hbody
          split at e
          · rename_i hcond
            obtain ⟨h1, h2, h3, h4⟩ := hcond
            obtain ⟨st, hex, hfin⟩ := Option.bind_eq_some_iff.1 e
            have eP : (envAt E vals).P = E.P := by unfold envAt; split <;> rfl
            have ek : (envAt E vals).reb = true → rebOk vals = true := by
              unfold envAt
              split
              · intro h; cases h
              · rename_i hn
                intro h
                rw [h] at hn
                simpa using hn
            obtain ⟨rs, ers, epin⟩ : ∃ rs, St.start E fn vals = { St.enter vals with rs := rs } ∧ ((envAt E vals).reb = true → pinned vals = true → rs.testBit 0 = true) := by
              unfold St.start
              split
              · refine ⟨_, rfl, fun _ hp => ?_⟩
                unfold rsOf
                rw [if_pos hp]
                simp
              · rename_i hr
                refine ⟨_, rfl, fun h => ?_⟩
                unfold envAt at h
                split at h
                · cases h
                · exact absurd h hr
            rw [ers] at hex
            generalize envAt E vals = E' at hex eP ek epin
            refine ⟨finish_tup hfin, fun w S args fps hsz htr hnt hnd hns hlt => ?_⟩
            let B : Beg := { w := w, S := S, fp := (List.range vals.length).flatMap fps, nt := fn.ntmps, strict := E.strict f, keep := (List.range vals.length).map fun k => ((adoptA (0 + 8 * k) (vals.getD k .undef)).1, args.getD k Go.undef) }
            let g0 : Gh := ⟨fun _ => none, S, fun _ => []⟩
            have m0 : MR B (fun _ => none) w g0 :=
              ⟨fun id ob h => (by cases h), fun id ob jo h => (by cases h), fun id ob h => (by cases h), fun id id' ob ob' _ h => (by cases h), fun id ob b h => (by cases h), fun _ id ob h => (by cases h), fun id ob h => (by cases h), hlt, fun b h => h, fun b h => .inl h,
                rfl, rfl, rfl, Nat.le_refl _, fun b _ _ => rfl, fun b _ => rfl⟩
            obtain ⟨n1, n2⟩ := nodup_fm.1 hnd
            obtain ⟨g1, t, hlen, hv⟩ := adoptT_sound vals 0 m0 (fun k => args.getD k Go.undef) fps (fun id _ _ => rfl) h2 htr (fun k hk us hu => by
                have := List.all_eq_true.1 hnt _ (List.getElem_mem hk)
                rw [hu] at this; cases this) n1 n2 (fun k hk b hb => ⟨.inl (mem_fm.2 ⟨k, hk, hb⟩), fun id ob h => (by cases h), hns b (mem_fm.2 ⟨k, hk, hb⟩)⟩)
            let a0 : Act := { tmps := args ++ Array.replicate (fn.ntmps - args.size) Go.undef, defers := [] }
            have hslots : ∀ i, VR w g1.S g1.J (appW (fun _ => none) (adoptT 0 vals).2) ((adoptT 0 vals).1.getD i .undef) (a0.tmps.getD i Go.undef) := fun i => by
              show VR _ _ _ _ _ ((args ++ Array.replicate (fn.ntmps - args.size) Go.undef).getD i Go.undef)
              rw [getD_append]
              by_cases hi : i < args.size
              · rw [if_pos hi]
                have hi2 : i < (adoptT 0 vals).1.length := by omega
                have := hv i hi2
                simpa only [List.getD_eq_getElem?_getD, List.getElem?_eq_getElem hi2, Option.getD_some] using this
              · rw [if_neg hi]
                have hi2 : (adoptT 0 vals).1.length ≤ i := by omega
                have e1 : (adoptT 0 vals).1.getD i .undef = .undef := by
                  simp only [List.getD_eq_getElem?_getD, List.getElem?_eq_none hi2, Option.getD_none]
                have e2 : (Array.replicate (fn.ntmps - args.size) Go.undef).getD (i - args.size) Go.undef = Go.undef := by
                  simp only [Array.getD]
                  split
                  · simp
                  · rfl
                rw [e1, e2]
                exact .pure .undef
            have s0 : SR B (St.enter vals).fr (St.enter vals).H (fun id => id < (St.enter vals).nx) a0 w g1 :=
              ⟨rfl, by
                show (args ++ Array.replicate (fn.ntmps - args.size) Go.undef).size = fn.ntmps
                simp only [Array.size_append, Array.size_replicate]
                omega, hslots, fun id hid => by
                  show id < 8 * vals.length
                  rcases Nat.lt_or_ge id (8 * vals.length) with h | h
                  · exact h
                  · exfalso
                    exact hid (t.out id (by omega)).1, t.m, fun p hp => by
                  obtain ⟨k, hk, rfl⟩ := List.mem_map.1 hp
                  have hk' := List.mem_range.1 hk
                  have hk2 : k < (adoptT 0 vals).1.length := by omega
                  have := hv k hk2
                  rw [adoptT_at 0 vals k hk2 hk'] at this
                  show VR w g1.S g1.J (appW (fun _ => none) (adoptT 0 vals).2) _ _
                  simpa only [List.getD_eq_getElem?_getD, List.getElem?_eq_getElem hk', Option.getD_some] using this⟩
            left
            refine ⟨f, args, ?_, fun cs => ?_⟩
            · have hne : (fn.name == "runtime.NumGoroutine") = false := by simpa using h4
              have hbn : fn.body.isNone = false := by rw [hbody]; rfl
              simp only [callFunc, Sem.run_bind, run_program, Result.andThen_ok, hfn, hne, hbn, Bool.false_eq_true, if_false, Sem.run_pure]
            · let b : Frame := { (default : Frame) with fn := f, kind := .normal }
              have henter : Frame.enter E.P f args .normal = b.at a0 [.code c] := by
                simp [Frame.enter, Frame.at, hfn, hbody, b, a0]
              obtain ⟨a', w', g', todo, hst, s'⟩ := exec_sound (E := E') (B := B) (eP.symm ▸ hm) (fun f vals r h => eP.symm ▸ ih f vals r h) (rs := rs) (fun hr p hp => by
                obtain ⟨k, hk, rfl⟩ := List.mem_map.1 hp
                have hk' := List.mem_range.1 hk
                have hok := ek hr
                have hk2 : k < (adoptT 0 vals).1.length := by omega
                have hat := adoptT_at 0 vals k hk2 hk'
                simp only [List.getD_eq_getElem?_getD, List.getElem?_eq_getElem hk', Option.getD_some]
                rw [← hat]
                exact keep_pin (l := (adoptT 0 vals).1) hok (epin hr) hk2) b cs n [.code c] { St.enter vals with rs := rs } st a0 w g1 hex s0 (by simp only [List.all_cons, List.all_nil, itemOk, Bool.and_true]; exact h3) rfl
              rw [eP] at hst
              obtain ⟨z, S', fp, fo, hr, hpost⟩ := finish_sound (B := B) s' (args := fun k => args.getD k Go.undef) (fun k hk => List.mem_map.2 ⟨k, List.mem_range.2 hk, by simp only [List.getD_eq_getElem?_getD, List.getElem?_eq_getElem hk, Option.getD_some]⟩) hfin
              refine ⟨.returned z, w', _, ⟨S', fp, fo, hpost⟩, by rw [henter]; exact hst, rfl, rfl, s'.df, rfl, fn, hfn, hr⟩
          · cases e
        · cases e
      · cases e

theorem runv_sound {E : Env} (hm : E.P.follows .mixedOrders = true) (hp : PrimsOk E) {f : FuncId} {vals : List V} {r : Res} (h : runv E f vals = some r) : CallOk E.P f vals r := by
  obtain ⟨n, hn⟩ := run_of_runv h
  exact callF_sound hm hp n f vals r hn

end Go.Proofs.Ytacfkfdnncgjcaa.Ev
end

section
set_option linter.unusedVariables false
set_option linter.unusedSimpArgs false
namespace Go.Proofs.Ytacfkfdnncgjcaa.Ev
open Go Go.RowKit

/-! ### Slices of whole numbers that are handed in -/
def RowOf (W : World) (a : Option Addr) (len cap : Nat) (zs : List Int) : Prop :=
  zs.length = len ∧ len ≤ cap ∧ cap ≤ maxLen ∧ (zs = [] ∨ ∃ x, a = some x ∧ x.block < W.heap.size ∧ ∀ i, i < zs.length → W.cell? (x.add i) = some (.int .i64 (zs.getD i 0)))
theorem RowOf.le {W : World} {a : Option Addr} {len cap : Nat} {zs : List Int} (h : RowOf W a len cap zs) : zs.length ≤ 9223372036854775807 := by
  have := h.1; have := h.2.1; have : cap ≤ 2 ^ 63 - 1 := h.2.2.1
  omega
theorem RowOf.pr {W : World} {a : Option Addr} {len cap : Nat} {zs : List Int} (h : RowOf W a len cap zs) : PR W (fun b => b < W.heap.size) (.list zs.length (zs.map (V.int .i64))) (.slice a len cap) := by
  obtain ⟨h1, h2, h3, h4⟩ := h
  subst h1
  refine .list (fun i => .int .i64 (zs.getD i 0)) ?_ h2 h3 (fun k hk => ?_) (fun _ _ => rfl)
  · rcases h4 with rfl | ⟨x, rfl, hb, hc⟩
    · exact .inl rfl
    · exact .inr ⟨x, rfl, hb, fun k hk => hc k (by simpa using hk)⟩
  · have hk' : k < zs.length := by simpa using hk
    have e : (zs.map (V.int .i64))[k] = V.int .i64 (zs.getD k 0) := by simp [hk']
    rw [e]
    exact .int _ _
theorem rowOf_open {H : Type} {enc : TypeId × Value → H} {P : Program} {W : World} {t e : TypeId} {v : Value} {fuel : Nat} {x : DataW H × List MemPlace} (ht : P.underlying t = some (.slice e)) (he : P.underlying e = some (.int .i64)) (hc : P.cellsOf e = 1)
    (h : DataW.trod enc P W 0 (fun _ => true) true fuel t [v] = some x) : ∃ a len cap zs, v = .slice a len cap ∧ RowOf W a len cap zs := by
  rcases Go.ChangeShapes.open_ints ht he hc h with ⟨hcs, _⟩ | ⟨a, len, cap, zs, hcs, _, hl, hm, hz, _, hcell, _⟩
  · injection hcs with hv _
    exact ⟨none, 0, 0, [], hv, rfl, Nat.le_refl _, Nat.zero_le _, .inl rfl⟩
  · injection hcs with hv _
    simp only [if_true] at hz
    refine ⟨some a, len, cap, zs.take len, hv, by simp; omega, hl, hm, ?_⟩
    by_cases h0 : zs.take len = []
    · exact .inl h0
    · right
      have hpos : 0 < zs.length := by
        cases zs with
        | nil => simp at h0
        | cons z zs => simp
      refine ⟨a, rfl, ?_, fun i hi => ?_⟩
      · have := World.block_lt_of_cell? _ _ (hcell 0 hpos)
        simpa [Addr.add] using this
      · have hi' : i < len ∧ i < zs.length := by have : i < min len zs.length := (by simpa using hi); omega
        rw [hcell i hi'.2]
        congr 2
        simp only [List.getD_eq_getElem?_getD, List.getElem?_take, hi'.1, if_true]

/-- The same for rows of bytes. -/
def ByteRow (W : World) (a : Option Addr) (len cap : Nat) (zs : List Int) : Prop :=
  zs.length = len ∧ len ≤ cap ∧ cap ≤ maxLen ∧ (zs = [] ∨ ∃ x, a = some x ∧ x.block < W.heap.size ∧ ∀ i, i < zs.length → W.cell? (x.add i) = some (.int .u8 (zs.getD i 0))) ∧ ∀ z, z ∈ zs → 0 ≤ z ∧ z ≤ 255
theorem ByteRow.le {W : World} {a : Option Addr} {len cap : Nat} {zs : List Int} (h : ByteRow W a len cap zs) : zs.length ≤ 9223372036854775807 := by
  have := h.1; have := h.2.1; have : cap ≤ 2 ^ 63 - 1 := h.2.2.1
  omega
theorem ByteRow.byte {W : World} {a : Option Addr} {len cap : Nat} {zs : List Int} (h : ByteRow W a len cap zs) : ∀ z, z ∈ zs → 0 ≤ z ∧ z ≤ 255 := h.2.2.2.2
theorem ByteRow.pr {W : World} {a : Option Addr} {len cap : Nat} {zs : List Int} (h : ByteRow W a len cap zs) : PR W (fun b => b < W.heap.size) (.list zs.length (zs.map (V.int .u8))) (.slice a len cap) := by
  obtain ⟨h1, h2, h3, h4, _⟩ := h
  subst h1
  refine .list (fun i => .int .u8 (zs.getD i 0)) ?_ h2 h3 (fun k hk => ?_) (fun _ _ => rfl)
  · rcases h4 with rfl | ⟨x, rfl, hb, hc⟩
    · exact .inl rfl
    · exact .inr ⟨x, rfl, hb, fun k hk => hc k (by simpa using hk)⟩
  · have hk' : k < zs.length := by simpa using hk
    have e : (zs.map (V.int .u8))[k] = V.int .u8 (zs.getD k 0) := by simp [hk']
    rw [e]
    exact .int _ _
theorem byteRow_open {H : Type} {enc : TypeId × Value → H} {P : Program} {W : World} {t e : TypeId} {v : Value} {fuel : Nat} {x : DataW H × List MemPlace} (ht : P.underlying t = some (.slice e)) (he : P.underlying e = some (.int .u8)) (hc : P.cellsOf e = 1)
    (h : DataW.trod enc P W 0 (fun _ => true) true fuel t [v] = some x) : ∃ a len cap zs, v = .slice a len cap ∧ ByteRow W a len cap zs := by
  rcases Go.ChangeShapes.open_ints ht he hc h with ⟨hcs, _⟩ | ⟨a, len, cap, zs, hcs, _, hl, hm, hz, _, hcell, hwf⟩
  · injection hcs with hv _
    exact ⟨none, 0, 0, [], hv, rfl, Nat.le_refl _, Nat.zero_le _, .inl rfl, fun z hz => by cases hz⟩
  · injection hcs with hv _
    simp only [if_true] at hz
    refine ⟨some a, len, cap, zs.take len, hv, by simp; omega, hl, hm, ?_, fun z hz => ?_⟩
    · by_cases h0 : zs.take len = []
      · exact .inl h0
      · right
        have hpos : 0 < zs.length := by
          cases zs with
          | nil => simp at h0
          | cons z zs => simp
        refine ⟨a, rfl, ?_, fun i hi => ?_⟩
        · have := World.block_lt_of_cell? _ _ (hcell 0 hpos)
          simpa [Addr.add] using this
        · have hi' : i < len ∧ i < zs.length := by have : i < min len zs.length := (by simpa using hi); omega
          rw [hcell i hi'.2]
          congr 2
          simp only [List.getD_eq_getElem?_getD, List.getElem?_take, hi'.1, if_true]
    · have := hwf z (List.mem_of_mem_take hz)
      simp [Lit.wf, IntKind.min, IntKind.max, IntKind.signed, IntKind.bits] at this
      omega

/-- A law whose abstract run answers true answers true, and leaves what was there as it was. -/
theorem law_calls {E : Env} (hm : E.P.follows .mixedOrders = true) (hp : PrimsOk E) {n : FuncId} {fn : Func} (hfn : E.P.funcs[n]? = some fn) (hb : fn.body.isNone = false) (hnm : (fn.name == "runtime.NumGoroutine") = false)
    {vals outs : List V} (h : runv E n vals = some ⟨true, .bool true, outs⟩) (ht : vals.all noTup = true) (w : World) (args : Array Value) (hl : args.size = vals.length)
    (ha : ∀ k (hk : k < vals.length), PR w (fun b => b < w.heap.size) vals[k] (args.getD k Go.undef)) :
    Calls E.P n args w fun e w' => e = .returned (.bool true) ∧ Below w.heap.size w w' := by
  have hg := (runv_sound hm hp h).2 w (fun b => b < w.heap.size) args (fun _ => []) hl (fun k hk => .pr (ha k hk)) ht (by rw [fm_nil]; exact List.nodup_nil) (by rw [fm_nil]; intro b hb; cases hb) (fun b hb => hb)
  rw [fm_nil] at hg
  rcases hg with ⟨f', args', h1, h2⟩ | ⟨z, w', h1, _⟩
  · simp only [callFunc, Sem.run_bind, run_program, Result.andThen_ok, hfn, hb, hnm, Bool.false_eq_true, if_false, Sem.run_pure, Result.ok.injEq, Next.enter.injEq] at h1
    obtain ⟨⟨rfl, rfl⟩, -⟩ := h1
    refine h2.mono fun e w' he => ?_
    cases e with
    | panicked c => exact he.elim
    | outgrown => exact he.elim
    | returned z =>
      obtain ⟨S', fp, fo, p⟩ := he
      have hz : z = .bool true := by
        rcases p.val with ⟨_, ht, _⟩ | ⟨hf, _⟩
        · cases ht with
          | pr h => cases h; rfl
        · cases hf
      exact ⟨by rw [hz], ⟨p.os, p.tape, p.output, p.size, fun b hb => p.fm b hb (by simp)⟩⟩
  · simp only [callFunc, Sem.run_bind, run_program, Result.andThen_ok, hfn, hb, hnm, Bool.false_eq_true, if_false, Sem.run_pure] at h1
    cases h1
end Go.Proofs.Ytacfkfdnncgjcaa.Ev
end
