/- The abstract interpreter: what a call comes to, in the model. Conditions: none. -/
import Derived.Test.YtclebbjpacpbmaaEvT
set_option linter.unusedVariables false
set_option linter.unusedSimpArgs false
namespace Go.Proofs.Ytclebbjpacpbmaa.Ev
open Go

section
variable {B : Beg} {H : Nat → Option Ob} {w : World} {g : Gh} {P : Program}

def oneZ : List Value → Value
  | [z] => z
  | zs => .tuple zs.toArray

theorem results_run {fn : Func} {a : Act} {zs : List Value} (h : (fn.results.toList.mapM (resSem a)).run P w = .ok zs w) : (results fn a.tmps).run P w = .ok (oneZ zs) w := by
  have e : results fn a.tmps = (do
      let vs ← fn.results.mapM (resSem a)
      pure (if h : vs.size = 1 then vs[0] else .tuple vs)) := by
    unfold results
    congr 2
  rw [e, Array.mapM_eq_mapM_toList]
  simp only [Sem.run_bind, Sem.run_map, h, Result.andThen_ok, Sem.run_pure]
  match zs with
  | [] => rfl
  | [z] => rfl
  | z :: z2 :: zs => rfl

theorem finish_tup {strict : Bool} {fn : Func} {vals : List V} {st : St} {r : Res} (e : finish P strict fn vals st = some r) : ∀ vs, r.v = .tup vs → vs.all noTup = true := by
  have key : ∀ (es : List V), es.all noTup = true → ∀ vs, oneV es = .tup vs → vs.all noTup = true := by
    intro es h vs hv
    match es with
    | [] =>
      have : V.tup [] = .tup vs := hv
      injection this with this
      rw [← this]; rfl
    | [e] =>
      have : e = .tup vs := hv
      subst this
      simp [noTup] at h
    | e1 :: e2 :: es =>
      have : V.tup (e1 :: e2 :: es) = .tup vs := hv
      injection this with this
      rw [← this]; exact h
  have read : ∀ {vs0 : List V}, finRead strict vals st vs0 = some r → ∀ vs, r.v = .tup vs → vs.all noTup = true := fun {vs0} e => by
    unfold finRead at e
    split at e
    · rename_i es hes
      simp only at e
      split at e
      · rename_i hc
        simp only [Option.some.injEq] at e
        subst e
        simp only [Bool.and_eq_true] at hc
        exact key _ hc.2
      · cases e
    · cases e
  unfold finish at e
  split at e
  · cases e
  · rename_i vs0 hvs
    split at e
    · rename_i es hes
      split at e
      · rename_i htr
        unfold finFresh at e
        simp only at e
        split at e
        · simp only [Option.some.injEq] at e
          subst e
          refine key _ ?_
          rw [List.all_eq_true]
          intro x hx
          obtain ⟨k, hk, rfl⟩ := List.getElem_of_mem hx
          have hl := normR_len (fn.resultTypes.toList.map (cellTys P)) es
          have hall := List.all_eq_true.1 htr _ (List.getElem_mem (show k < es.length by omega))
          simp only [Bool.and_eq_true] at hall
          obtain ⟨t, h | h⟩ := normR_at (fn.resultTypes.toList.map (cellTys P)) es k hk (by omega)
          · rw [h]; exact normA_noTup hall.2
          · rw [h]; exact hall.2
        · cases e
      · exact read e
    · exact read e

/-- What the objects that are given away own is not seen. -/
theorem own_notS (m : MR B H w g) {own fo : List Nat} (h : From H g own fo) (hc : (B.strict || flatO H own) = true) : ∀ c, c ∈ fo → ¬ g.S c := fun c hc' hs => by
  obtain ⟨id, ob, q1, q2, q3, q4⟩ := h c hc'
  rw [Bool.or_eq_true] at hc
  rcases hc with hc | hc
  · exact m.ms hc id ob q2 q3 c q4 hs
  · exact m.mu id ob c q2 q3 (flat_own m hc q1 q2 q4) hs

theorem from_new (m : MR B H w g) {own fo : List Nat} (h : From H g own fo) : ∀ c, c ∈ fo → c ∈ B.fp ∨ B.w.heap.size ≤ c := fun c hc => by
  obtain ⟨id, ob, _, q2, _, q4⟩ := h c hc
  exact m.new id ob q2 c q4

theorem flatO_sub {a b : List Nat} (h : ∀ i, i ∈ a → i ∈ b) (hf : flatO H b = true) : flatO H a = true := by
  unfold flatO at hf ⊢
  exact List.all_eq_true.2 fun i hi => List.all_eq_true.1 hf i (h i hi)

theorem finish_sound {fn : Func} {vals : List V} {st : St} {a : Act} {args : Nat → Value} {r : Res} (s : SR B st.fr st.H (fun id => id < st.nx) a w g) (hk : ∀ k (hk : k < vals.length), ((adoptA (0 + 8 * k) vals[k]).1, args k) ∈ B.keep) (e : finish P B.strict fn vals st = some r) :
    ∃ z S' fp fo, (results fn a.tmps).run P w = .ok z w ∧ Post B.w B.S B.fp args vals.length r z w S' fp fo := by
  unfold finish at e
  split at e
  · cases e
  · rename_i vs hvs
    obtain ⟨zs, g1, hrun, m1, p1, hl, hv⟩ := results_sound rfl hvs s.m s.sl s.ids
    have hres := results_run hrun
    have hkeep : ∀ k (hk : k < vals.length), VR w g1.S g1.J st.H (adoptA (0 + 8 * k) vals[k]).1 (args k) := fun k h => (s.kp _ (hk k h)).mono p1
    have read : finRead B.strict vals st vs = some r → ∃ z S' fp fo, (results fn a.tmps).run P w = .ok z w ∧ Post B.w B.S B.fp args vals.length r z w S' fp fo := fun e => by
      unfold finRead at e
      split at e
      · rename_i es hes
        simp only at e
        split at e
        · rename_i hc
          simp only [Option.some.injEq] at e
          subst e
          simp only [Bool.and_eq_true] at hc
          obtain ⟨⟨⟨c1, c2⟩, c3⟩, c4⟩ := hc
          obtain ⟨fo, o1, o2, o3⟩ := outs_sound m1 hkeep (nodup_of_nodupB c1)
          let S' : Nat → Prop := fun c => g1.S c ∨ RdS st.H g1 (vs.flatMap (idsN st.H depth)) c
          have hel := mapM_len hes
          have hpr : ∀ k (hk : k < es.length) (hk3 : k < zs.length), PR w S' es[k] zs[k] := fun k hk hk3 => by
            refine pur_sound m1 (S' := S') (fun c h => .inl h) depth (hv k (by omega) hk3) (mapM_at hes k (by omega) hk) fun id hid c hc => ?_
            obtain ⟨ob, ho⟩ := idsN_some depth _ id hid
            exact .inr ⟨id, ob, List.mem_flatMap.2 ⟨_, List.getElem_mem (show k < vs.length by omega), hid⟩, ho, hc⟩
          have hval : PR w S' (oneV es) (oneZ zs) := by
            have hzl : zs.length = es.length := by omega
            clear hres hrun hv hl hel hes c4
            cases es with
            | nil =>
              have h1 : zs = [] := List.eq_nil_of_length_eq_zero (by simpa using hzl)
              rw [h1]
              exact .tup rfl fun k hk => by simp at hk
            | cons n1 ns =>
              cases zs with
              | nil => simp at hzl
              | cons z1 zs =>
                cases ns with
                | nil =>
                  have h1 : zs = [] := List.eq_nil_of_length_eq_zero (by simpa using hzl)
                  subst h1
                  exact hpr 0 (by simp) (by simp)
                | cons n2 ns =>
                  cases zs with
                  | nil => simp at hzl
                  | cons z2 zs =>
                    refine .tup (by simpa using hzl.symm) fun k hk => ?_
                    have hk3 : k < (z1 :: z2 :: zs).length := by omega
                    have hg : (z1 :: z2 :: zs).toArray.getD k Go.undef = (z1 :: z2 :: zs)[k] := by
                      simp only [Array.getD, List.size_toArray, hk3, dif_pos, Array.getInternal_eq_getElem, List.getElem_toArray]
                    rw [hg]; exact hpr k hk hk3
          have hmono : ∀ {o : V} {z : Value} {f : List Nat}, OutC w g1.S o z f → OutC w S' o z f := fun h => h.imp (fun h => h) fun h => ⟨h.1, h.2.mono (fun c h => .inl h) (fun _ _ => rfl) fun _ _ => rfl⟩
          refine ⟨_, S', [], fo, hres, ⟨m1.os, m1.tape, m1.output, m1.size, m1.fm, m1.bs, fun c h => .inl (m1.s0 c h), fun c h => ?_, fun c h => ?_, .inr ⟨rfl, hval, rfl⟩, by rw [outsLen]; exact Nat.le_refl _, fun k hk => ?_, fun c hc' => ?_, ?_, fun hf c hc' hs => ?_⟩⟩
          · rcases h with h | ⟨id, ob, _, h2, h3⟩
            · exact m1.lt c h
            · exact m1.flt h2 c h3
          · rcases h with h | ⟨id, ob, _, h2, h3⟩
            · exact m1.s1 c h
            · rcases m1.new id ob h2 c h3 with h | h
              · exact .inr (.inr h)
              · exact .inr (.inl h)
          · rcases o1 k hk with ⟨os, arr, fos, h1, h2, h3, h4, h5⟩ | h
            · exact .inl ⟨os, arr, fos, h1, h2, h3, fun j hj => hmono (h4 j hj), h5⟩
            · exact .inr (hmono h)
          · rcases hc' with hc' | ⟨k, hk, hc'⟩
            · cases hc'
            · exact from_new m1 o3 c (mem_fm.2 ⟨k, hk, hc'⟩)
          · rw [List.nil_append]; exact o2
          · rcases hc' with hc' | ⟨k, hk, hc'⟩
            · cases hc'
            · have hcf := mem_fm.2 ⟨k, hk, hc'⟩
              rcases hs with hs | ⟨i, o, h1, h2, h3⟩
              · exact own_notS m1 o3 c3 c hcf hs
              · obtain ⟨id, ob, q1, q2, q3, q4⟩ := o3 c hcf
                have hne : id ≠ i := fun e => by
                  have := List.all_eq_true.1 c2 id q1
                  simp only [Bool.not_eq_true', List.contains_eq_mem, decide_eq_false_iff_not] at this
                  exact this (e ▸ h1)
                exact m1.dj id i ob o hne q2 h2 c q4 h3
        · cases e
      · cases e
    split at e
    · -- a result that is new
      rename_i es hes
      split at e
      · rename_i htr
        unfold finFresh at e
        simp only at e
        split at e
        · rename_i hc
          simp only [Option.some.injEq] at e
          subst e
          simp only [Bool.and_eq_true] at hc
          have hnd := nodup_of_nodupB hc.1
          rw [List.nodup_append] at hnd
          obtain ⟨hu, ho, huo⟩ := hnd
          obtain ⟨fo, o1, o2, o3⟩ := outs_sound m1 hkeep ho
          have hel := mapM_len hes
          obtain ⟨n1, n2⟩ := nodup_flatMap_at hu
          have H1 : ∀ k, k < es.length → ∃ f, ∀ (hk : k < es.length) (hk2 : k < vs.length) (hk3 : k < zs.length), TR w (fun _ => False) es[k] zs[k] f ∧ f.Nodup ∧ From st.H g1 (eidN st.H depth vs[k]) f := fun k hk => by
            obtain ⟨f, t1, t2, t3⟩ := expX_sound m1 (hv k (by omega) (by omega)) (mapM_at hes k (by omega) hk) (n1 k (by omega))
            have hall := List.all_eq_true.1 htr _ (List.getElem_mem hk)
            simp only [Bool.and_eq_true] at hall
            exact ⟨f, fun _ _ _ => ⟨t1.strict _ hall.1, t2, t3⟩⟩
          obtain ⟨fps, hfps⟩ := choose_fp H1
          have hfps' : ∀ k (hk : k < es.length), TR w (fun _ => False) es[k] (zs[k]'(by omega)) (fps k) ∧ (fps k).Nodup ∧ From st.H g1 (eidN st.H depth (vs[k]'(by omega))) (fps k) := fun k hk => hfps k hk hk (by omega) (by omega)
          have hfrom : From st.H g1 (vs.flatMap (eidN st.H depth)) ((List.range es.length).flatMap fps) := fun c hc => by
            obtain ⟨k, hk, hc⟩ := mem_fm.1 hc
            obtain ⟨id, ob, q1, q2, q3, q4⟩ := (hfps' k hk).2.2 c hc
            exact ⟨id, ob, List.mem_flatMap.2 ⟨_, List.getElem_mem (show k < vs.length by omega), q1⟩, q2, q3, q4⟩
          have hndf : ((List.range es.length).flatMap fps).Nodup := nodup_fm.2 ⟨fun k hk => (hfps' k hk).2.1, fun i j hij hj c hci hcj => from_apart m1 (hfps' i (by omega)).2.2 (hfps' j hj).2.2 (n2 i j (by omega) (by omega) (by omega)) c hci hcj⟩
          -- the value
          let ts := fn.resultTypes.toList.map (cellTys P)
          have hnl := normR_len ts es
          have hnorm : ∀ k (hk : k < (normR ts es).length) (hk3 : k < zs.length), TR w (fun _ => False) (normR ts es)[k] zs[k] (fps k) := fun k hk hk3 => by
            have h0 := (hfps' k (by omega)).1
            obtain ⟨t, h | h⟩ := normR_at ts es k hk (by omega)
            · rw [h]; exact normA_sound h0
            · rw [h]; exact h0
          have hval : TR w (fun _ => False) (oneV (normR ts es)) (oneZ zs) ((List.range es.length).flatMap fps) := by
            have hzl : zs.length = (normR ts es).length := by omega
            generalize normR ts es = ns at hnorm hnl hzl
            clear hres hrun hv H1 hfps hfps' hl
            cases ns with
            | nil =>
              have h1 : zs = [] := List.eq_nil_of_length_eq_zero (by simpa using hzl)
              have h2 : es.length = 0 := by simpa using hnl.symm
              rw [h1, h2]
              exact .tup fps rfl fun k hk => by simp at hk
            | cons n1 ns =>
              cases zs with
              | nil => simp at hzl
              | cons z1 zs =>
                cases ns with
                | nil =>
                  have h1 : zs = [] := List.eq_nil_of_length_eq_zero (by simpa using hzl)
                  subst h1
                  have h2 : es.length = 1 := by simpa using hnl.symm
                  rw [h2]
                  have := hnorm 0 (by simp) (by simp)
                  simpa [oneV, oneZ] using this
                | cons n2 ns =>
                  cases zs with
                  | nil => simp at hzl
                  | cons z2 zs =>
                    rw [← hnl]
                    refine .tup fps (by simpa using hzl.symm) fun k hk => ?_
                    have hk3 : k < (z1 :: z2 :: zs).length := by omega
                    have := hnorm k hk hk3
                    have hg : (z1 :: z2 :: zs).toArray.getD k Go.undef = (z1 :: z2 :: zs)[k] := by
                      simp only [Array.getD, List.size_toArray, hk3, dif_pos, Array.getInternal_eq_getElem, List.getElem_toArray]
                    rw [hg]; exact this
          refine ⟨_, g1.S, (List.range es.length).flatMap fps, fo, hres, ⟨m1.os, m1.tape, m1.output, m1.size, m1.fm, m1.bs, m1.s0, m1.lt, m1.s1, .inl ⟨rfl, hval⟩, by rw [outsLen]; exact Nat.le_refl _, fun k hk => o1 k hk, fun c hc' => ?_, ?_, fun hf c hc' => ?_⟩⟩
          · rcases hc' with hc' | ⟨k, hk, hc'⟩
            · exact from_new m1 hfrom c hc'
            · exact from_new m1 o3 c (mem_fm.2 ⟨k, hk, hc'⟩)
          · rw [List.nodup_append]
            exact ⟨hndf, o2, fun x hx y hy e => from_apart m1 hfrom o3 (fun i hi hi' => huo i hi i hi' rfl) x hx (e ▸ hy)⟩
          · have hst : (B.strict || flatO st.H (vs.flatMap (eidN st.H depth) ++ outsI st.H 0 (outs st.H (vs.flatMap (eidN st.H depth)) 0 vals))) = true := by
              have h2 := hc.2
              rw [Bool.or_assoc, Bool.or_eq_true] at h2
              rcases h2 with h2 | h2
              · simp only [Bool.true_and] at hf
                rw [h2] at hf; cases hf
              · exact h2
            have sub : ∀ {l : List Nat}, (∀ i, i ∈ l → i ∈ vs.flatMap (eidN st.H depth) ++ outsI st.H 0 (outs st.H (vs.flatMap (eidN st.H depth)) 0 vals)) → (B.strict || flatO st.H l) = true := fun {l} h => by
              rw [Bool.or_eq_true] at hst ⊢
              exact hst.imp (fun h => h) fun hf => flatO_sub h hf
            rcases hc' with hc' | ⟨k, hk, hc'⟩
            · exact own_notS m1 hfrom (sub fun i hi => List.mem_append.2 (.inl hi)) c hc'
            · exact own_notS m1 o3 (sub fun i hi => List.mem_append.2 (.inr hi)) c (mem_fm.2 ⟨k, hk, hc'⟩)
        · cases e
      · exact read e
    · exact read e
end

/-! ### A function -/
/-- What is taken to be so of the functions that are not run by their text. -/
def PrimsOk (E : Env) : Prop := ∀ f vals r, E.prim f vals = some r → CallOk E.P f vals r

theorem callF_sound {E : Env} (hm : E.P.follows .mixedOrders = true) (hp : PrimsOk E) : ∀ (n : Nat) (f : FuncId) (vals : List V) (r : Res), callF E n f vals = some r → CallOk E.P f vals r := by
  intro n
  induction n with
  | zero => intro f vals r e; simp [callF] at e
  | succ n ih =>
    intro f vals r e
    unfold callF at e
    split at e
    · rename_i r' hr
      injection e with e
      subst e
      exact hp f vals _ hr
    · split at e
      · rename_i fn hfn
        split at e
        · rename_i c hbody
          split at e
          · rename_i hcond
            obtain ⟨h1, h2, h3, h4⟩ := hcond
            obtain ⟨st, hex, hfin⟩ := Option.bind_eq_some_iff.1 e
            have eP : (envAt E vals).P = E.P := by unfold envAt; split <;> rfl
            have ek : (envAt E vals).reb = true → rebOk vals = true := by
              unfold envAt
              split
              · intro h; cases h
              · rename_i hn
                intro h
                rw [h] at hn
                simpa using hn
            obtain ⟨rs, ers⟩ : ∃ rs, St.start E fn vals = { St.enter vals with rs := rs } := by
              unfold St.start
              split
              · exact ⟨_, rfl⟩
              · exact ⟨_, rfl⟩
            rw [ers] at hex
            generalize envAt E vals = E' at hex eP ek
            refine ⟨finish_tup hfin, fun w S args fps hsz htr hnt hnd hns hlt => ?_⟩
            let B : Beg := { w := w, S := S, fp := (List.range vals.length).flatMap fps, nt := fn.ntmps, strict := E.strict f, keep := (List.range vals.length).map fun k => ((adoptA (0 + 8 * k) (vals.getD k .undef)).1, args.getD k Go.undef) }
            let g0 : Gh := ⟨fun _ => none, S, fun _ => []⟩
            have m0 : MR B (fun _ => none) w g0 :=
              ⟨fun id ob h => (by cases h), fun id ob jo h => (by cases h), fun id ob h => (by cases h), fun id id' ob ob' _ h => (by cases h), fun id ob b h => (by cases h), fun _ id ob h => (by cases h), fun id ob h => (by cases h), hlt, fun b h => h, fun b h => .inl h,
                rfl, rfl, rfl, Nat.le_refl _, fun b _ _ => rfl, fun b _ => rfl⟩
            obtain ⟨n1, n2⟩ := nodup_fm.1 hnd
            obtain ⟨g1, t, hlen, hv⟩ := adoptT_sound vals 0 m0 (fun k => args.getD k Go.undef) fps (fun id _ _ => rfl) h2 htr (fun k hk us hu => by
                have := List.all_eq_true.1 hnt _ (List.getElem_mem hk)
                rw [hu] at this; cases this) n1 n2 (fun k hk b hb => ⟨.inl (mem_fm.2 ⟨k, hk, hb⟩), fun id ob h => (by cases h), hns b (mem_fm.2 ⟨k, hk, hb⟩)⟩)
            let a0 : Act := { tmps := args ++ Array.replicate (fn.ntmps - args.size) Go.undef, defers := [] }
            have hslots : ∀ i, VR w g1.S g1.J (appW (fun _ => none) (adoptT 0 vals).2) ((adoptT 0 vals).1.getD i .undef) (a0.tmps.getD i Go.undef) := fun i => by
              show VR _ _ _ _ _ ((args ++ Array.replicate (fn.ntmps - args.size) Go.undef).getD i Go.undef)
              rw [getD_append]
              by_cases hi : i < args.size
              · rw [if_pos hi]
                have hi2 : i < (adoptT 0 vals).1.length := by omega
                have := hv i hi2
                simpa only [List.getD_eq_getElem?_getD, List.getElem?_eq_getElem hi2, Option.getD_some] using this
              · rw [if_neg hi]
                have hi2 : (adoptT 0 vals).1.length ≤ i := by omega
                have e1 : (adoptT 0 vals).1.getD i .undef = .undef := by
                  simp only [List.getD_eq_getElem?_getD, List.getElem?_eq_none hi2, Option.getD_none]
                have e2 : (Array.replicate (fn.ntmps - args.size) Go.undef).getD (i - args.size) Go.undef = Go.undef := by
                  simp only [Array.getD]
                  split
                  · simp
                  · rfl
                rw [e1, e2]
                exact .pure .undef
            have s0 : SR B (St.enter vals).fr (St.enter vals).H (fun id => id < (St.enter vals).nx) a0 w g1 :=
              ⟨rfl, by
                show (args ++ Array.replicate (fn.ntmps - args.size) Go.undef).size = fn.ntmps
                simp only [Array.size_append, Array.size_replicate]
                omega, hslots, fun id hid => by
                  show id < 8 * vals.length
                  rcases Nat.lt_or_ge id (8 * vals.length) with h | h
                  · exact h
                  · exfalso
                    exact hid (t.out id (by omega)).1, t.m, fun p hp => by
                  obtain ⟨k, hk, rfl⟩ := List.mem_map.1 hp
                  have hk' := List.mem_range.1 hk
                  have hk2 : k < (adoptT 0 vals).1.length := by omega
                  have := hv k hk2
                  rw [adoptT_at 0 vals k hk2 hk'] at this
                  show VR w g1.S g1.J (appW (fun _ => none) (adoptT 0 vals).2) _ _
                  simpa only [List.getD_eq_getElem?_getD, List.getElem?_eq_getElem hk', Option.getD_some] using this⟩
            left
            refine ⟨f, args, ?_, fun cs => ?_⟩
            · have hne : (fn.name == "runtime.NumGoroutine") = false := by simpa using h4
              have hbn : fn.body.isNone = false := by rw [hbody]; rfl
              simp only [callFunc, Sem.run_bind, run_program, Result.andThen_ok, hfn, hne, hbn, Bool.false_eq_true, if_false, Sem.run_pure]
            · let b : Frame := { (default : Frame) with fn := f, kind := .normal }
              have henter : Frame.enter E.P f args .normal = b.at a0 [.code c] := by
                simp [Frame.enter, Frame.at, hfn, hbody, b, a0]
              obtain ⟨a', w', g', todo, hst, s'⟩ := exec_sound (E := E') (B := B) (eP.symm ▸ hm) (fun f vals r h => eP.symm ▸ ih f vals r h) (fun hr p hp => by
                obtain ⟨k, hk, rfl⟩ := List.mem_map.1 hp
                have hk' := List.mem_range.1 hk
                have hok := List.all_eq_true.1 (ek hr)
                have hk2 : k < (adoptT 0 vals).1.length := by omega
                have := hok _ (List.getElem_mem hk2)
                rw [adoptT_at 0 vals k hk2 hk'] at this
                simpa only [List.getD_eq_getElem?_getD, List.getElem?_eq_getElem hk', Option.getD_some] using this) b cs n [.code c] { St.enter vals with rs := rs } st a0 w g1 hex s0 (by simp only [List.all_cons, List.all_nil, itemOk, Bool.and_true]; exact h3)
              rw [eP] at hst
              obtain ⟨z, S', fp, fo, hr, hpost⟩ := finish_sound (B := B) s' (args := fun k => args.getD k Go.undef) (fun k hk => List.mem_map.2 ⟨k, List.mem_range.2 hk, by simp only [List.getD_eq_getElem?_getD, List.getElem?_eq_getElem hk, Option.getD_some]⟩) hfin
              refine ⟨.returned z, w', _, ⟨S', fp, fo, hpost⟩, by rw [henter]; exact hst, rfl, rfl, s'.df, rfl, fn, hfn, hr⟩
          · cases e
        · cases e
      · cases e

theorem runv_sound {E : Env} (hm : E.P.follows .mixedOrders = true) (hp : PrimsOk E) {f : FuncId} {vals : List V} {r : Res} (h : runv E f vals = some r) : CallOk E.P f vals r := by
  obtain ⟨n, hn⟩ := run_of_runv h
  exact callF_sound hm hp n f vals r hn

end Go.Proofs.Ytclebbjpacpbmaa.Ev
