/- The abstract interpreter: the contract of a call; arguments on their way. Conditions: none. -/
import Derived.Test.YtclebbjpacpbmaaEvM
set_option linter.unusedVariables false
set_option linter.unusedSimpArgs false
namespace Go.Proofs.Ytclebbjpacpbmaa.Ev
open Go

/-! ### The contract -/
def OutC (w : World) (S : Nat → Prop) (o : V) (z : Value) (fo : List Nat) : Prop := (hasU o = false ∧ (∀ cs, o ≠ .agg cs) ∧ fo = []) ∨ (∃ sz n cs, o = .uniq sz n cs) ∧ TR w S o z fo
def OutA (w : World) (S : Nat → Prop) (o : V) (z : Value) (fo : List Nat) : Prop :=
  (∃ (os : List V) (arr : Array Value) (fos : Nat → List Nat), o = .agg os ∧ z = .agg arr ∧ os.length = arr.size ∧ (∀ k (hk : k < os.length), OutC w S os[k] (arr.getD k Go.undef) (fos k)) ∧ fo = (List.range os.length).flatMap fos) ∨ OutC w S o z fo

/-- What holds behind a call. -/
structure Post (w : World) (S : Nat → Prop) (fpA : List Nat) (args : Nat → Value) (n : Nat) (r : Res) (z : Value) (w' : World) (S' : Nat → Prop) (fp : List Nat) (fo : Nat → List Nat) : Prop where
  os : w'.os = w.os
  tape : w'.tape = w.tape
  output : w'.output = w.output
  size : w.heap.size ≤ w'.heap.size
  fm : ∀ b, b < w.heap.size → b ∉ fpA → w'.heap[b]? = w.heap[b]?
  bs : ∀ b, b < w.heap.size → bsz w' b = bsz w b
  hS : ∀ b, S b → S' b
  hlt : ∀ b, S' b → b < w'.heap.size
  hs1 : ∀ b, S' b → S b ∨ w.heap.size ≤ b ∨ b ∈ fpA
  val : (r.fresh = true ∧ TR w' (fun _ => False) r.v z fp) ∨ (r.fresh = false ∧ PR w' S' r.v z ∧ fp = [])
  len : r.outs.length ≤ n
  outs : ∀ k (hk : k < r.outs.length), OutA w' S' r.outs[k] (args k) (fo k)
  new : ∀ b, (b ∈ fp ∨ ∃ k, k < r.outs.length ∧ b ∈ fo k) → b ∈ fpA ∨ w.heap.size ≤ b
  nd : (fp ++ (List.range r.outs.length).flatMap fo).Nodup
  oS : (r.fresh && r.outs.all (treeN depth)) = false → ∀ b, (b ∈ fp ∨ ∃ k, k < r.outs.length ∧ b ∈ fo k) → ¬ S' b

/-- A call comes to its end, and R holds of what it hands back. -/
def Goes (P : Program) (f : FuncId) (args : Array Value) (w : World) (R : Value → World → Prop) : Prop :=
  (∃ f' args', (callFunc f args).run P w = .ok (.enter f' args') w ∧ Calls P f' args' w fun
    | .returned z, w' => R z w'
    | _, _ => False) ∨ ∃ z w', (callFunc f args).run P w = .ok (.value z) w' ∧ R z w'

theorem Goes.mono {P : Program} {f : FuncId} {args : Array Value} {w : World} {R R' : Value → World → Prop} (h : Goes P f args w R) (hr : ∀ z w', R z w' → R' z w') : Goes P f args w R' := by
  rcases h with ⟨f', args', h1, h2⟩ | ⟨z, w', h1, h2⟩
  · refine .inl ⟨f', args', h1, h2.mono fun e w' he => ?_⟩
    cases e with
    | returned z => exact hr _ _ he
    | panicked c => exact he
    | outgrown => exact he
  · exact .inr ⟨z, w', h1, hr _ _ h2⟩

def CallOk (P : Program) (f : FuncId) (vals : List V) (r : Res) : Prop :=
  (∀ vs, r.v = .tup vs → vs.all noTup = true) ∧
  ∀ (w : World) (S : Nat → Prop) (args : Array Value) (fps : Nat → List Nat), args.size = vals.length → (∀ k (hk : k < vals.length), TR w S vals[k] (args.getD k Go.undef) (fps k)) → vals.all noTup = true →
    ((List.range vals.length).flatMap fps).Nodup → (∀ b, b ∈ (List.range vals.length).flatMap fps → ¬ S b) → (∀ b, S b → b < w.heap.size) →
    Goes P f args w fun z w' => ∃ S' fp fo, Post w S ((List.range vals.length).flatMap fps) (fun k => args.getD k Go.undef) vals.length r z w' S' fp fo

/-! ### Writes, one after the other -/
theorem appW_mem : ∀ (l : List (Nat × Option Ob)) (H : Nat → Option Ob) (i : Nat) (o : Option Ob), appW H l i = o → (i, o) ∈ l ∨ (H i = o ∧ ∀ x, x ∈ l → x.1 ≠ i)
  | [], H, i, o, h => .inr ⟨h, fun x hx => by cases hx⟩
  | (j, p) :: l, H, i, o, h => by
    rcases appW_mem l (upd H j p) i o h with h1 | ⟨h1, h2⟩
    · exact .inl (List.mem_cons_of_mem _ h1)
    · by_cases e : i = j
      · subst e
        rw [upd_same] at h1
        subst h1
        exact .inl (List.mem_cons_self ..)
      · rw [upd_ne _ _ _ _ e] at h1
        refine .inr ⟨h1, fun x hx => ?_⟩
        rcases List.mem_cons.1 hx with rfl | hx
        · exact fun e' => e e'.symm
        · exact h2 x hx
theorem appW_notin {l : List (Nat × Option Ob)} {H : Nat → Option Ob} {i : Nat} (h : ∀ x, x ∈ l → x.1 ≠ i) : appW H l i = H i := by
  rcases appW_mem l H i _ rfl with h1 | ⟨h1, _⟩
  · exact absurd rfl (h _ h1)
  · exact h1.symm

section
variable {B : Beg} {H : Nat → Option Ob} {w : World} {g : Gh} {P : Program} {b : Nat}

/-! ### Handing over -/
/-- What an argument owns comes from the objects that are handed over. -/
def From (H : Nat → Option Ob) (g : Gh) (own : List Nat) (fp : List Nat) : Prop := ∀ b, b ∈ fp → ∃ id ob, id ∈ own ∧ H id = some ob ∧ 1 ≤ ob.lv ∧ b ∈ g.F id

theorem ownX_sound (m : MR B H w g) {v u : V} {x : Value} (h : VR w g.S g.J H v x) (e : ownX H v = some u) (hn : (ownI H v).Nodup) : ∃ fp, TR w g.S u x fp ∧ fp.Nodup ∧ From H g (ownI H v) fp := by
  unfold ownX at e
  split at e
  · rename_i id ver off len
    split at e
    · split at e
      · obtain ⟨fp, h1, h2⟩ := exp_sound m depth h e hn
        refine ⟨fp, h1, h2.1, fun c hc => ?_⟩
        obtain ⟨i, hi, hF, _⟩ := h2.2 c hc
        obtain ⟨ob, ho, hl⟩ := eid_lv depth e i hi
        exact ⟨i, ob, hi, ho, by omega, hF⟩
      · cases e
    · cases e
  · cases e

theorem expX_sound (m : MR B H w g) {v u : V} {x : Value} (h : VR w g.S g.J H v x) (e : expN H depth v = some u) (hn : (eidN H depth v).Nodup) : ∃ fp, TR w g.S u x fp ∧ fp.Nodup ∧ From H g (eidN H depth v) fp := by
  obtain ⟨fp, h1, h2⟩ := exp_sound m depth h e hn
  refine ⟨fp, h1, h2.1, fun c hc => ?_⟩
  obtain ⟨i, hi, hF, _⟩ := h2.2 c hc
  obtain ⟨ob, ho, hl⟩ := eid_lv depth e i hi
  exact ⟨i, ob, hi, ho, by omega, hF⟩

/-- Blocks of objects that are read. -/
def RdS (H : Nat → Option Ob) (g : Gh) (rd : List Nat) (b : Nat) : Prop := ∃ id ob, id ∈ rd ∧ H id = some ob ∧ b ∈ g.F id

theorem from_apart (m : MR B H w g) {o1 o2 f1 f2 : List Nat} (h1 : From H g o1 f1) (h2 : From H g o2 f2) (hne : ∀ a, a ∈ o1 → a ∉ o2) : ∀ c, c ∈ f1 → c ∉ f2 := fun c hc hc' => by
  obtain ⟨i1, p1, m1, e1, _, g1⟩ := h1 c hc
  obtain ⟨i2, p2, m2, e2, _, g2⟩ := h2 c hc'
  by_cases e : i1 = i2
  · subst e; exact hne i1 m1 m2
  · exact m.dj i1 i2 p1 p2 e e1 e2 c g1 g2

/-- The objects that are read are there. -/
theorem idsN_some : ∀ (k : Nat) (v : V) (id : Nat), id ∈ idsN H k v → ∃ ob, H id = some ob := by
  intro k
  induction k with
  | zero => intro v id h; simp [idsN] at h
  | succ k ih =>
    intro v id h
    have lst : ∀ {cs : List V}, id ∈ cs.flatMap (idsN H k) → ∃ ob, H id = some ob := fun {cs} h => by
      obtain ⟨c, _, hc⟩ := List.mem_flatMap.1 h
      exact ih c id hc
    cases v with
    | sl i ver off len =>
      simp only [idsN] at h
      split at h
      · rename_i ob hob
        rcases List.mem_cons.1 h with rfl | h
        · exact ⟨ob, (getO_some hob).1⟩
        · exact lst h
      · cases h
    | ptr i ver off =>
      simp only [idsN] at h
      split at h
      · rename_i ob hob
        rcases List.mem_cons.1 h with rfl | h
        · exact ⟨ob, (getO_some hob).1⟩
        · exact lst h
      · cases h
    | uniq sz n cs => simp only [idsN] at h; exact lst h
    | agg cs => simp only [idsN] at h; exact lst h
    | tup cs => simp only [idsN] at h; exact lst h
    | iface t v => simp only [idsN] at h; exact ih v id h
    | func f fi ca =>
      simp only [idsN] at h
      rcases List.mem_append.1 h with h | h
      · exact lst h
      · exact lst h
    | _ => simp [idsN] at h

theorem prepA_sound (m : MR B H w g) {md : Nat} {a : V} {p : AP} {x : Value} (e : prepA H md a = some p) (h : VR w g.S g.J H a x) (hn : p.own.Nodup) {S' : Nat → Prop} (hS : ∀ b, g.S b → S' b) (hR : ∀ b, RdS H g p.rd b → S' b) :
    ∃ fp, TR w S' p.v x fp ∧ fp.Nodup ∧ From H g p.own fp := by
  have share : ∀ {q : AP}, ((purN H depth a).map fun v => ({ v, rd := idsN H depth a } : AP)) = some q → p = q → ∃ fp, TR w S' p.v x fp ∧ fp.Nodup ∧ From H g p.own fp := fun {q} hq e => by
    subst e
    obtain ⟨v, hv, rfl⟩ := Option.map_eq_some_iff.1 hq
    refine ⟨[], .pr (pur_sound m hS depth h hv fun id hid c hc => ?_), List.nodup_nil, fun c hc => by cases hc⟩
    obtain ⟨ob, ho⟩ := idsN_some depth a id hid
    exact hR c ⟨id, ob, hid, ho, hc⟩
  have mono : ∀ {u : V} {fp : List Nat} {y : Value}, TR w g.S u y fp → TR w S' u y fp := fun h => h.mono hS (fun _ _ => rfl) fun _ _ => rfl
  unfold prepA at e
  simp only at e
  split at e
  · split at e
    · rename_i cs
      split at e
      · rename_i cs' hcs'
        simp only [Option.some.injEq] at e
        subst e
        obtain ⟨arr, rfl, hl, hc, h1⟩ := h.agg_inv
        have hlen := mapM_len hcs'
        simp only at hn
        obtain ⟨n1, n2⟩ := nodup_flatMap_at hn
        have H1 : ∀ j, j < cs'.length → ∃ f, ∀ (hj : j < cs'.length) (hj2 : j < cs.length), TR w g.S cs'[j] (arr.getD j Go.undef) f ∧ f.Nodup ∧ From H g (if isRefV cs[j] = true then ownI H cs[j] else eidN H depth cs[j]) f := fun j hj => by
          have hm := mapM_at hcs' j (by omega) hj
          have hnj := n1 j (by omega)
          have hcj := hc j (by omega)
          by_cases hr : isRefV (cs[j]'(by omega)) = true
          · simp only [hr, if_true] at hm hnj
            obtain ⟨f, hf⟩ := ownX_sound m hcj hm hnj
            exact ⟨f, fun _ _ => by simpa only [hr, if_true] using hf⟩
          · simp only [hr] at hm hnj
            obtain ⟨f, hf⟩ := expX_sound m hcj hm hnj
            exact ⟨f, fun _ _ => by rw [if_neg hr]; exact hf⟩
        obtain ⟨fp, hfp⟩ := choose_fp H1
        have hall : ∀ j (hj : j < cs'.length), TR w g.S cs'[j] (arr.getD j Go.undef) (fp j) ∧ (fp j).Nodup ∧ From H g (if isRefV (cs[j]'(by omega)) = true then ownI H (cs[j]'(by omega)) else eidN H depth (cs[j]'(by omega))) (fp j) := fun j hj => hfp j hj hj (by omega)
        refine ⟨_, .agg fp (by omega) (fun j hj => mono (hall j hj).1) fun j hj => h1 j (by omega), nodup_fm.2 ⟨fun j hj => (hall j hj).2.1, fun i j hij hj c hc hc' => from_apart m (hall i (by omega)).2.2 (hall j hj).2.2 (n2 i j (by omega) (by omega) (by omega)) c hc hc'⟩, fun c hc => ?_⟩
        obtain ⟨j, hj, hc⟩ := mem_fm.1 hc
        obtain ⟨id, ob, q1, q2, q3, q4⟩ := (hall j hj).2.2 c hc
        exact ⟨id, ob, List.mem_flatMap.2 ⟨_, List.getElem_mem (by omega : j < cs.length), q1⟩, q2, q3, q4⟩
      · cases e
    · split at e
      · obtain ⟨v, hv, rfl⟩ := Option.map_eq_some_iff.1 e
        obtain ⟨fp, h1, h2, h3⟩ := ownX_sound m h hv hn
        exact ⟨fp, mono h1, h2, h3⟩
      · exact share e rfl
  · split at e
    · split at e
      · rename_i u hu
        simp only [Option.some.injEq] at e
        subst e
        obtain ⟨fp, h1, h2, h3⟩ := expX_sound m h hu hn
        exact ⟨fp, mono h1, h2, h3⟩
      · exact share e rfl
    · exact share e rfl
  · exact share e rfl

theorem prepL_len : ∀ {ms : List Nat} {as : List V} {ps : List AP}, prepL H ms as = some ps → ps.length = as.length
  | ms, [], ps, h => by simp [prepL] at h; subst h; rfl
  | ms, a :: as, ps, h => by
    simp only [prepL] at h
    split at h
    · rename_i p qs h1 h2
      injection h with h
      subst h
      simp [prepL_len h2]
    · cases h

theorem prepL_sound (m : MR B H w g) {S' : Nat → Prop} (hS : ∀ b, g.S b → S' b) : ∀ {ms : List Nat} {as : List V} {ps : List AP} {xs : Nat → Value}, prepL H ms as = some ps → (∀ k (hk : k < as.length), VR w g.S g.J H as[k] (xs k)) → (ps.flatMap (·.own)).Nodup → (∀ b, RdS H g (ps.flatMap (·.rd)) b → S' b) →
    ∃ fps : Nat → List Nat, ∀ k (hk : k < ps.length), TR w S' ps[k].v (xs k) (fps k) ∧ (fps k).Nodup ∧ From H g ps[k].own (fps k)
  | ms, [], ps, xs, h, _, _, _ => by
    simp [prepL] at h
    subst h
    exact ⟨fun _ => [], fun k hk => by simp at hk⟩
  | ms, a :: as, ps, xs, h, hv, hn, hR => by
    simp only [prepL] at h
    split at h
    · rename_i p qs h1 h2
      injection h with h
      subst h
      rw [List.flatMap_cons, List.nodup_append] at hn
      obtain ⟨f0, t0⟩ := prepA_sound m h1 (hv 0 (by simp)) hn.1 hS (fun c ⟨id, ob, q1, q2, q3⟩ => hR c ⟨id, ob, by rw [List.flatMap_cons]; exact List.mem_append.2 (.inl q1), q2, q3⟩)
      obtain ⟨fr, tr⟩ := prepL_sound m hS (xs := fun k => xs (k + 1)) h2 (fun k hk => hv (k + 1) (by simpa using hk)) hn.2.1 (fun c ⟨id, ob, q1, q2, q3⟩ => hR c ⟨id, ob, by rw [List.flatMap_cons]; exact List.mem_append.2 (.inr q1), q2, q3⟩)
      refine ⟨fun k => match k with | 0 => f0 | k + 1 => fr k, fun k hk => ?_⟩
      cases k with
      | zero => exact t0
      | succ k => exact tr k (by simpa using hk)
    · cases h

/-- No cell of these objects owns a row: their blocks are theirs alone. -/
theorem flat_own (m : MR B H w g) {ids : List Nat} (hf : flatO H ids = true) {id c : Nat} {ob : Ob} (hid : id ∈ ids) (hH : H id = some ob) (hc : c ∈ g.F id) : g.J id = some (some c) := by
  cases hj : g.J id with
  | none => exact absurd hj (m.hj id ob hH)
  | some jo =>
    have ho := m.ob id ob jo hH hj
    cases jo with
    | none => rw [ho.2] at hc; cases hc
    | some blk =>
      obtain ⟨arr, e, fr, fp, hb, hz, hl, hcs, h1, hF⟩ := ho
      rw [hF] at hc
      rcases List.mem_cons.1 hc with rfl | hc
      · rfl
      · obtain ⟨k, hk, hc⟩ := mem_fm.1 hc
        unfold flatO at hf
        have := List.all_eq_true.1 hf id hid
        simp only [hH] at this
        have hu := List.all_eq_true.1 this _ (List.getElem_mem hk)
        rw [(hcs k hk).flat (by simpa using hu) (h1 k hk)] at hc
        cases hc
end

end Go.Proofs.Ytclebbjpacpbmaa.Ev
