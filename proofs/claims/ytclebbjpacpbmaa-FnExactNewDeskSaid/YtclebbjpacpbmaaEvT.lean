/- The abstract interpreter: functions. Conditions: none. -/
import Derived.Test.YtclebbjpacpbmaaEvS
set_option linter.unusedVariables false
set_option linter.unusedSimpArgs false
namespace Go.Proofs.Ytclebbjpacpbmaa.Ev
open Go

section
variable {B : Beg} {H : Nat → Option Ob} {w : World} {g : Gh} {P : Program} {b : Nat}

/-! ### Results -/
theorem loadD_wr {t : TypeId} {a : V} {d : D} (h : loadD P false H b t a = some d) : d.wr = [] := by
  unfold loadD at h
  split at h
  · cases h
  · split at h
    · split at h
      · split at h
        · split at h
          · simp only [Bool.false_and, Bool.false_eq_true, if_false] at h
            obtain ⟨_, _, rfl⟩ := Option.map_eq_some_iff.1 h
            rfl
          · cases h
        · obtain ⟨c, _, h⟩ := Option.bind_eq_some_iff.1 h
          simp only [Bool.false_and, Bool.false_eq_true, if_false] at h
          obtain ⟨_, _, rfl⟩ := Option.map_eq_some_iff.1 h
          rfl
      · cases h
    · split at h
      · split at h
        · simp only [ret, Option.some.injEq] at h; subst h; rfl
        · cases h
      · obtain ⟨c, _, h⟩ := Option.bind_eq_some_iff.1 h
        simp only [ret, Option.some.injEq] at h; subst h; rfl
    · cases h

theorem loadD_b {t : TypeId} {a : V} (b' : Nat) : loadD P false H b t a = loadD P false H b' t a := by
  unfold loadD
  simp only [Bool.false_and, Bool.false_eq_true, if_false]

def resSem (a : Act) : ResultVar → Sem Value
  | .tmp t => pure (a.tmps.getD t Go.undef)
  | .cell x t => do loadVar t (← asAddr (a.tmps.getD x Go.undef))

theorem results_sound {st : St} {a : Act} (hH : st.H = H) : ∀ {rs : List ResultVar} {vs : List V} {g : Gh} {N : Nat}, rs.mapM (resV P B.strict st) = some vs → MR B H w g → (∀ t, VR w g.S g.J H (st.fr t) (a.tmps.getD t Go.undef)) → (∀ id, g.J id ≠ none → id < N) →
    ∃ (zs : List Value) (g' : Gh), (rs.mapM (resSem a)).run P w = .ok zs w ∧ MR B H w g' ∧ Pers w g.S g.J H w g'.S g'.J H ∧ vs.length = zs.length ∧ ∀ k (hk : k < vs.length) (hk' : k < zs.length), VR w g'.S g'.J H vs[k] zs[k]
  | [], vs, g, N, h, m, sl, hnx => by
    simp at h
    subst h
    exact ⟨[], g, rfl, m, .refl .., rfl, fun k hk => by simp at hk⟩
  | r :: rs, vs, g, N, h, m, sl, hnx => by
    obtain ⟨v, vr, h1, h2, rfl⟩ := mapM_cons_some h
    have head : ∃ z g1 N1, (resSem a r).run P w = .ok z w ∧ MR B H w g1 ∧ Pers w g.S g.J H w g1.S g1.J H ∧ VR w g1.S g1.J H v z ∧ (∀ id, g1.J id ≠ none → id < N1) := by
      cases r with
      | tmp t =>
        simp only [resV, Option.some.injEq] at h1
        subst h1
        exact ⟨_, g, N, rfl, m, .refl .., sl t, hnx⟩
      | cell x t =>
        simp only [resV] at h1
        cases hst : B.strict with
        | true => rw [hst] at h1; simp at h1
        | false =>
          rw [hst] at h1
          simp only [Bool.false_eq_true, if_false] at h1
          split at h1
          · rename_i d hd
            simp only [Option.some.injEq] at h1
            subst h1
            rw [hH, loadD_b N] at hd
            have hwr := loadD_wr hd
            obtain ⟨z, g1, hr, o⟩ := load_sound (b := N) m (fun id h _ => by
              cases hj : g.J id with
              | none => rfl
              | some _ => have := hnx id (by rw [hj]; simp); omega) (by rw [hst]; exact hd) (sl x)
            have e : appW H d.wr = H := by rw [hwr]; rfl
            have om := o.m; have op := o.p; have ov := o.v
            rw [e] at om op ov
            refine ⟨z, g1, N + 64, ?_, om, op, ov, fun id hid => ?_⟩
            · have hp : ∃ ad, a.tmps.getD x Go.undef = .pointer (some ad) := by
                unfold Instr.loadAt Instr.sureAddr at hr
                split at hr
                · exact ⟨_, by assumption⟩
                · cases hr
              obtain ⟨ad, hp⟩ := hp
              rw [hp] at hr
              show (do loadVar t (← asAddr (a.tmps.getD x Go.undef)) : Sem Value).run P w = .ok z w
              rw [hp]
              simpa [Instr.loadAt, Instr.sureAddr, asAddr] using hr
            · rcases o.ids id hid with h | h
              · have := hnx id h; omega
              · omega
          · cases h1
    obtain ⟨z, g1, N1, hz, m1, p1, v1, hnx1⟩ := head
    obtain ⟨zs, g2, hzs, m2, p2, l2, v2⟩ := results_sound hH h2 m1 (fun t => (sl t).mono p1) hnx1
    refine ⟨z :: zs, g2, ?_, m2, p1.trans p2, by simp [l2], fun k hk hk' => ?_⟩
    · rw [List.mapM_cons]
      simp only [Sem.run_bind, hz, Result.andThen_ok, hzs, Sem.run_pure]
    · cases k with
      | zero => exact v1.mono p2
      | succ k => exact v2 k (by simpa using hk) (by simpa using hk')

/-! ### nil slices, by their types -/
theorem normC_sound {S : Nat → Prop} {t : Option Nat} {v : V} {z : Value} {fp : List Nat} (h : TR w S v z fp) : TR w S (normC t v) z fp := by
  unfold normC
  split
  · cases h with
    | pr h => cases h; exact .unil _ _
  · exact h
theorem normC_noTup {t : Option Nat} {v : V} (h : noTup v = true) : noTup (normC t v) = true := by
  unfold normC
  split
  · rfl
  · exact h

theorem normL_len : ∀ (ts : List (Option Nat)) (vs : List V), (normL ts vs).length = vs.length
  | [], vs => by cases vs <;> rfl
  | t :: ts, [] => rfl
  | t :: ts, v :: vs => by simp [normL, normL_len ts vs]
theorem normL_at : ∀ (ts : List (Option Nat)) (vs : List V) (k : Nat) (hk : k < (normL ts vs).length) (hk' : k < vs.length), ∃ t, (normL ts vs)[k] = normC t vs[k] ∨ (normL ts vs)[k] = vs[k]
  | [], vs, k, hk, hk' => by cases vs <;> exact ⟨none, .inr rfl⟩
  | t :: ts, [], k, hk, hk' => by simp at hk'
  | t :: ts, v :: vs, 0, hk, hk' => ⟨t, .inl rfl⟩
  | t :: ts, v :: vs, k + 1, hk, hk' => normL_at ts vs k (by simpa [normL] using hk) (by simpa using hk')

theorem normA_sound {S : Nat → Prop} {ts : List (Option Nat)} {v : V} {z : Value} {fp : List Nat} (h : TR w S v z fp) : TR w S (normA ts v) z fp := by
  unfold normA
  split
  · rename_i cs
    obtain ⟨arr, fps, rfl, hl, hc, h1, rfl⟩ := h.agg_inv
    have hlen := normL_len ts cs
    rw [← hlen]
    refine .agg fps (by omega) (fun k hk => ?_) fun k hk => h1 k (by omega)
    obtain ⟨t, e | e⟩ := normL_at ts cs k hk (by omega)
    · rw [e]; exact normC_sound (hc k (by omega))
    · rw [e]; exact hc k (by omega)
  · exact normC_sound h
theorem normA_noTup {ts : List (Option Nat)} {v : V} (h : noTup v = true) : noTup (normA ts v) = true := by
  unfold normA
  split
  · rfl
  · exact normC_noTup h
theorem normR_len : ∀ (ts : List (List (Option Nat))) (vs : List V), (normR ts vs).length = vs.length
  | [], vs => by cases vs <;> rfl
  | t :: ts, [] => rfl
  | t :: ts, v :: vs => by simp [normR, normR_len ts vs]
theorem normR_at : ∀ (ts : List (List (Option Nat))) (vs : List V) (k : Nat) (hk : k < (normR ts vs).length) (hk' : k < vs.length), ∃ t, (normR ts vs)[k] = normA t vs[k] ∨ (normR ts vs)[k] = vs[k]
  | [], vs, k, hk, hk' => by cases vs <;> exact ⟨[], .inr rfl⟩
  | t :: ts, [], k, hk, hk' => by simp at hk'
  | t :: ts, v :: vs, 0, hk, hk' => ⟨t, .inl rfl⟩
  | t :: ts, v :: vs, k + 1, hk, hk' => normR_at ts vs k (by simpa [normR] using hk) (by simpa using hk')

theorem outsLen (H : Nat → Option Ob) (used : List Nat) : ∀ (b : Nat) (vs : List V), (outs H used b vs).length = vs.length
  | b, [] => rfl
  | b, v :: vs => by simp [outs, outsLen H used (b + 8) vs]
theorem outs_at (H : Nat → Option Ob) (used : List Nat) : ∀ (b : Nat) (vs : List V) (k : Nat) (hk : k < (outs H used b vs).length) (hk' : k < vs.length), (outs H used b vs)[k] = outA H used (b + 8 * k) vs[k]
  | b, [], k, hk, hk' => by simp at hk'
  | b, v :: vs, 0, hk, hk' => rfl
  | b, v :: vs, k + 1, hk, hk' => by
    have := outs_at H used (b + 8) vs k (by simpa [outs] using hk) (by simpa using hk')
    rw [show b + 8 * (k + 1) = b + 8 + 8 * k by omega]
    exact this
theorem outLLen (H : Nat → Option Ob) (used : List Nat) : ∀ (b : Nat) (vs : List V), (outL H used b vs).length = vs.length
  | b, [] => rfl
  | b, v :: vs => by simp [outL, outLLen H used (b + 1) vs]
theorem outL_at (H : Nat → Option Ob) (used : List Nat) : ∀ (b : Nat) (vs : List V) (k : Nat) (hk : k < (outL H used b vs).length) (hk' : k < vs.length), (outL H used b vs)[k] = outC H used (b + k) vs[k]
  | b, [], k, hk, hk' => by simp at hk'
  | b, v :: vs, 0, hk, hk' => rfl
  | b, v :: vs, k + 1, hk, hk' => by
    have := outL_at H used (b + 1) vs k (by simpa [outL] using hk) (by simpa using hk')
    rw [show b + (k + 1) = b + 1 + k by omega]
    exact this
/-- The objects of the k-th argument's content. -/
theorem outsI_at (H : Nat → Option Ob) : ∀ (b : Nat) (os : List V), outsI H b os = (List.range os.length).flatMap fun k => outAI H (b + 8 * k) (os.getD k .undef)
  | b, [] => rfl
  | b, o :: os => by
    rw [List.length_cons, List.range_succ_eq_map, List.flatMap_cons, List.flatMap_map]
    simp only [outsI, outsI_at H (b + 8) os]
    congr 1
    congr 1
    funext k
    rw [show b + 8 * (k + 1) = b + 8 + 8 * k by omega]
    rfl
theorem outIL_at (H : Nat → Option Ob) : ∀ (b : Nat) (os : List V), outIL H b os = (List.range os.length).flatMap fun k => outI H (b + k) (os.getD k .undef)
  | b, [] => rfl
  | b, o :: os => by
    rw [List.length_cons, List.range_succ_eq_map, List.flatMap_cons, List.flatMap_map]
    simp only [outIL, outIL_at H (b + 1) os]
    congr 1
    congr 1
    funext k
    rw [show b + (k + 1) = b + 1 + k by omega]
    rfl

theorem exp_sl_form {id ver off n : Nat} {u : V} (h : expN H depth (.sl id ver off n) = some u) : ∃ sz us, u = .uniq sz n us := by
  simp only [depth, expN] at h
  split at h
  · split at h
    · obtain ⟨us, _, rfl⟩ := Option.map_eq_some_iff.1 h
      exact ⟨_, us, rfl⟩
    · cases h
  · cases h

/-- The content of what was handed over: as a tree of what the frame owns. -/
theorem outC_sound (m : MR B H w g) {used : List Nat} {v : V} {z : Value} (h : VR w g.S g.J H (adoptC b v).1 z) (hn : (outI H b (outC H used b v)).Nodup) : ∃ fo, OutC w g.S (outC H used b v) z fo ∧ fo.Nodup ∧ From H g (outI H b (outC H used b v)) fo := by
  have nothing : outC H used b v = .undef → ∃ fo, OutC w g.S (outC H used b v) z fo ∧ fo.Nodup ∧ From H g (outI H b (outC H used b v)) fo := fun e => by
    rw [e]
    exact ⟨[], .inl ⟨rfl, fun cs h => (by cases h), rfl⟩, List.nodup_nil, fun c hc => by cases hc⟩
  cases v with
  | uniq sz n cs =>
    unfold outC at hn nothing ⊢
    simp only at hn nothing ⊢
    split at hn
    · rename_i ob hob
      split at hn
      · rename_i hcond
        split at hn
        · rename_i u hu
          simp only [hob, hcond, and_self, if_true, hu] at nothing ⊢
          have hform : ∃ us, u = .uniq ob.sz n us := by
            simp only [depth, expN, hob] at hu
            split at hu
            · obtain ⟨us, _, rfl⟩ := Option.map_eq_some_iff.1 hu
              exact ⟨us, rfl⟩
            · cases hu
          obtain ⟨us, rfl⟩ := hform
          obtain ⟨fo, t, n1, f1⟩ := expX_sound m h hu hn
          exact ⟨fo, .inr ⟨⟨_, _, _, rfl⟩, t⟩, n1, f1⟩
        · rename_i hu
          simp only [hob, hcond, and_self, if_true, hu] at nothing ⊢
          exact nothing trivial
      · rename_i hcond
        simp only [hob, hcond, if_false] at nothing ⊢
        exact nothing trivial
    · rename_i hob
      simp only [hob] at nothing ⊢
      exact nothing trivial
  | _ => exact nothing rfl

theorem adoptL_at : ∀ (b : Nat) (cs : List V) (k : Nat) (hk : k < (adoptL b cs).1.length) (hk' : k < cs.length), (adoptL b cs).1[k] = (adoptC (b + k) cs[k]).1
  | b, [], k, hk, hk' => by simp at hk'
  | b, c :: cs, 0, hk, hk' => rfl
  | b, c :: cs, k + 1, hk, hk' => by
    have := adoptL_at (b + 1) cs k (by have h : k + 1 < (_ :: (adoptL (b + 1) cs).1).length := hk; simpa using h) (by simpa using hk')
    rw [show b + (k + 1) = b + 1 + k by omega]
    exact this
theorem adoptT_at : ∀ (b : Nat) (cs : List V) (k : Nat) (hk : k < (adoptT b cs).1.length) (hk' : k < cs.length), (adoptT b cs).1[k] = (adoptA (b + 8 * k) cs[k]).1
  | b, [], k, hk, hk' => by simp at hk'
  | b, c :: cs, 0, hk, hk' => rfl
  | b, c :: cs, k + 1, hk, hk' => by
    have := adoptT_at (b + 8) cs k (by have h : k + 1 < (_ :: (adoptT (b + 8) cs).1).length := hk; simpa using h) (by simpa using hk')
    rw [show b + 8 * (k + 1) = b + 8 + 8 * k by omega]
    exact this
theorem adoptL_len : ∀ (b : Nat) (cs : List V), (adoptL b cs).1.length = cs.length
  | b, [] => rfl
  | b, c :: cs => by
    show (_ :: (adoptL (b + 1) cs).1).length = _
    simp [adoptL_len (b + 1) cs]

theorem outA_sound (m : MR B H w g) {used : List Nat} {v : V} {z : Value} (h : VR w g.S g.J H (adoptA b v).1 z) (hn : (outAI H b (outA H used b v)).Nodup) : ∃ fo, OutA w g.S (outA H used b v) z fo ∧ fo.Nodup ∧ From H g (outAI H b (outA H used b v)) fo := by
  by_cases e : ∃ cs, v = .agg cs
  · obtain ⟨cs, rfl⟩ := e
    have hA : outA H used b (.agg cs) = .agg (outL H used b cs) := rfl
    have hAI : outAI H b (.agg (outL H used b cs)) = outIL H b (outL H used b cs) := rfl
    rw [hA, hAI] at hn ⊢
    rw [outIL_at] at hn ⊢
    have hll := outLLen H used b cs
    rw [hll] at hn ⊢
    obtain ⟨n1, n2⟩ := nodup_fm.1 hn
    have hv : VR w g.S g.J H (.agg (adoptL b cs).1) z := h
    obtain ⟨arr, rfl, hl, hc, h1⟩ := hv.agg_inv
    have hal := adoptL_len b cs
    have hget : ∀ k, k < cs.length → (outL H used b cs).getD k .undef = outC H used (b + k) (cs.getD k .undef) := fun k hk => by
      have h1 : k < (outL H used b cs).length := by omega
      have := outL_at H used b cs k h1 hk
      simp only [List.getD_eq_getElem?_getD, List.getElem?_eq_getElem h1, List.getElem?_eq_getElem hk, Option.getD_some, this]
    have H1 : ∀ k, k < cs.length → ∃ fo, ∀ (hk : k < cs.length), OutC w g.S (outC H used (b + k) cs[k]) (arr.getD k Go.undef) fo ∧ fo.Nodup ∧ From H g (outI H (b + k) (outC H used (b + k) cs[k])) fo := fun k hk => by
      have hvk := hc k (by omega)
      rw [adoptL_at b cs k (by omega) hk] at hvk
      have hnk := n1 k hk
      rw [hget k hk] at hnk
      simp only [List.getD_eq_getElem?_getD, List.getElem?_eq_getElem hk, Option.getD_some] at hnk
      obtain ⟨fo, hfo⟩ := outC_sound m (b := b + k) (used := used) hvk hnk
      exact ⟨fo, fun _ => hfo⟩
    obtain ⟨fos, hfos⟩ := choose_fp H1
    refine ⟨(List.range cs.length).flatMap fos, .inl ⟨_, arr, fos, rfl, rfl, by omega, fun k hk => ?_, by rw [hll]⟩, nodup_fm.2 ⟨fun k hk => (hfos k hk hk).2.1, fun i j hij hj c hci hcj => ?_⟩, fun c hc' => ?_⟩
    · rw [outL_at H used b cs k hk (by omega)]
      exact (hfos k (by omega) (by omega)).1
    · refine from_apart m (hfos i (by omega) (by omega)).2.2 (hfos j hj hj).2.2 (fun a ha ha' => ?_) c hci hcj
      refine n2 i j hij hj a ?_ ?_
      · rw [hget i (by omega)]
        simpa only [List.getD_eq_getElem?_getD, List.getElem?_eq_getElem (show i < cs.length by omega), Option.getD_some] using ha
      · rw [hget j hj]
        simpa only [List.getD_eq_getElem?_getD, List.getElem?_eq_getElem hj, Option.getD_some] using ha'
    · obtain ⟨k, hk, hck⟩ := mem_fm.1 hc'
      obtain ⟨id, ob, q1, q2, q3, q4⟩ := (hfos k hk hk).2.2 c hck
      refine ⟨id, ob, mem_fm.2 ⟨k, hk, ?_⟩, q2, q3, q4⟩
      rw [hget k hk]
      simpa only [List.getD_eq_getElem?_getD, List.getElem?_eq_getElem hk, Option.getD_some] using q1
  · have hv1 : ∀ cs, v ≠ .agg cs := fun cs h => e ⟨cs, h⟩
    have e1 : outA H used b v = outC H used b v := by
      unfold outA
      split
      · exact absurd rfl (hv1 _)
      · rfl
    have e2 : adoptA b v = adoptC b v := by
      unfold adoptA
      split
      · exact absurd rfl (hv1 _)
      · rfl
    have e3 : outAI H b (outC H used b v) = outI H b (outC H used b v) := by
      unfold outAI
      split
      · rename_i cs he
        exfalso
        unfold outC at he
        split at he
        · rename_i sz n cs2
          split at he
          · split at he
            · split at he
              · rename_i u hu
                obtain ⟨_, _, hu'⟩ := exp_sl_form hu
                rw [hu'] at he
                cases he
              · cases he
            · cases he
          · cases he
        · cases he
      · rfl
    rw [e1] at hn ⊢
    rw [e2] at h
    rw [e3] at hn ⊢
    obtain ⟨fo, h1, h2, h3⟩ := outC_sound m h hn
    exact ⟨fo, .inr h1, h2, h3⟩

/-- The contents of all that was handed over. -/
theorem outs_sound (m : MR B H w g) {used : List Nat} {vs : List V} {zs : Nat → Value} (h : ∀ k (hk : k < vs.length), VR w g.S g.J H (adoptA (0 + 8 * k) vs[k]).1 (zs k)) (hn : (outsI H 0 (outs H used 0 vs)).Nodup) :
    ∃ fo : Nat → List Nat, (∀ k (hk : k < (outs H used 0 vs).length), OutA w g.S (outs H used 0 vs)[k] (zs k) (fo k)) ∧ ((List.range (outs H used 0 vs).length).flatMap fo).Nodup ∧ From H g (outsI H 0 (outs H used 0 vs)) ((List.range (outs H used 0 vs).length).flatMap fo) := by
  have hl := outsLen H used 0 vs
  rw [outsI_at] at hn ⊢
  rw [hl] at hn
  obtain ⟨n1, n2⟩ := nodup_fm.1 hn
  have hget : ∀ k (hk : k < vs.length), (outs H used 0 vs).getD k .undef = outA H used (0 + 8 * k) vs[k] := fun k hk => by
    have h1 : k < (outs H used 0 vs).length := by omega
    have := outs_at H used 0 vs k h1 hk
    simp only [List.getD_eq_getElem?_getD, List.getElem?_eq_getElem h1, Option.getD_some, this]
  have H1 : ∀ k, k < vs.length → ∃ fo, ∀ (hk : k < vs.length), OutA w g.S (outA H used (0 + 8 * k) vs[k]) (zs k) fo ∧ fo.Nodup ∧ From H g (outAI H (0 + 8 * k) (outA H used (0 + 8 * k) vs[k])) fo := fun k hk => by
    have hnk := n1 k hk
    rw [hget k hk] at hnk
    obtain ⟨fo, hfo⟩ := outA_sound m (h k hk) hnk
    exact ⟨fo, fun _ => hfo⟩
  obtain ⟨fos, hfos⟩ := choose_fp H1
  refine ⟨fos, fun k hk => ?_, ?_, ?_⟩
  · rw [outs_at H used 0 vs k (by omega) (by omega)]
    exact (hfos k (by omega) (by omega)).1
  all_goals rw [hl]
  · refine nodup_fm.2 ⟨fun k hk => (hfos k hk hk).2.1, fun i j hij hj c hci hcj => ?_⟩
    refine from_apart m (hfos i (by omega) (by omega)).2.2 (hfos j hj hj).2.2 (fun a ha ha' => ?_) c hci hcj
    refine n2 i j hij hj a ?_ ?_
    · rw [hget i (by omega)]; exact ha
    · rw [hget j hj]; exact ha'
  · intro c hc'
    obtain ⟨k, hk, hck⟩ := mem_fm.1 hc'
    obtain ⟨id, ob, q1, q2, q3, q4⟩ := (hfos k hk hk).2.2 c hck
    refine ⟨id, ob, mem_fm.2 ⟨k, hk, ?_⟩, q2, q3, q4⟩
    rw [hget k hk]; exact q1
end

end Go.Proofs.Ytclebbjpacpbmaa.Ev
