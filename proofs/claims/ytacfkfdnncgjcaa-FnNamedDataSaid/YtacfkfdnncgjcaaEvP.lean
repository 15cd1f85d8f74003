/- The abstract interpreter: the contract of a call; arguments on their way. what comes back from a call. calls. Conditions: none. -/
import Derived.Test.YtacfkfdnncgjcaaEvM
section
set_option linter.unusedVariables false
set_option linter.unusedSimpArgs false
namespace Go.Proofs.Ytacfkfdnncgjcaa.Ev
open Go

/-! ### The contract -/
def OutC (w : World) (S : Nat → Prop) (o : V) (z : Value) (fo : List Nat) : Prop := (hasU o = false ∧ (∀ cs, o ≠ .agg cs) ∧ fo = []) ∨ hasU o = true ∧ TR w S o z fo
def OutA (w : World) (S : Nat → Prop) (o : V) (z : Value) (fo : List Nat) : Prop :=
  (∃ (os : List V) (arr : Array Value) (fos : Nat → List Nat), o = .agg os ∧ z = .agg arr ∧ os.length = arr.size ∧ (∀ k (hk : k < os.length), OutC w S os[k] (arr.getD k Go.undef) (fos k)) ∧ fo = (List.range os.length).flatMap fos) ∨ OutC w S o z fo

/-- What holds behind a call. -/
structure Post (w : World) (S : Nat → Prop) (fpA : List Nat) (args : Nat → Value) (n : Nat) (r : Res) (z : Value) (w' : World) (S' : Nat → Prop) (fp : List Nat) (fo : Nat → List Nat) : Prop where
  os : w'.os = w.os
  tape : w'.tape = w.tape
  output : w'.output = w.output
  size : w.heap.size ≤ w'.heap.size
  fm : ∀ b, b < w.heap.size → b ∉ fpA → w'.heap[b]? = w.heap[b]?
  bs : ∀ b, b < w.heap.size → bsz w' b = bsz w b
  hS : ∀ b, S b → S' b
  hlt : ∀ b, S' b → b < w'.heap.size
  hs1 : ∀ b, S' b → S b ∨ w.heap.size ≤ b ∨ b ∈ fpA
  val : (r.fresh = true ∧ TR w' S' r.v z fp ∧ (r.outs.all (treeN depth) = true → TR w' (fun _ => False) r.v z fp)) ∨ (r.fresh = false ∧ PR w' S' r.v z ∧ fp = [])
  len : r.outs.length ≤ n
  outs : ∀ k (hk : k < r.outs.length), OutA w' S' r.outs[k] (args k) (fo k)
  new : ∀ b, (b ∈ fp ∨ ∃ k, k < r.outs.length ∧ b ∈ fo k) → b ∈ fpA ∨ w.heap.size ≤ b
  nd : (fp ++ (List.range r.outs.length).flatMap fo).Nodup
  oS : (r.fresh && r.outs.all (treeN depth)) = false → ∀ b, (b ∈ fp ∨ ∃ k, k < r.outs.length ∧ b ∈ fo k) → ¬ S' b

/-- A call comes to its end, and R holds of what it hands back. -/
def Goes (P : Program) (f : FuncId) (args : Array Value) (w : World) (R : Value → World → Prop) : Prop :=
  (∃ f' args', (callFunc f args).run P w = .ok (.enter f' args') w ∧ Calls P f' args' w fun
    | .returned z, w' => R z w'
    | _, _ => False) ∨ ∃ z w', (callFunc f args).run P w = .ok (.value z) w' ∧ R z w'

theorem Goes.mono {P : Program} {f : FuncId} {args : Array Value} {w : World} {R R' : Value → World → Prop} (h : Goes P f args w R) (hr : ∀ z w', R z w' → R' z w') : Goes P f args w R' := by
  rcases h with ⟨f', args', h1, h2⟩ | ⟨z, w', h1, h2⟩
  · refine .inl ⟨f', args', h1, h2.mono fun e w' he => ?_⟩
    cases e with
    | returned z => exact hr _ _ he
    | panicked c => exact he
    | outgrown => exact he
  · exact .inr ⟨z, w', h1, hr _ _ h2⟩

def CallOk (P : Program) (f : FuncId) (vals : List V) (r : Res) : Prop :=
  (∀ vs, r.v = .tup vs → vs.all noTup = true) ∧
  ∀ (w : World) (S : Nat → Prop) (args : Array Value) (fps : Nat → List Nat), args.size = vals.length → (∀ k (hk : k < vals.length), TR w S vals[k] (args.getD k Go.undef) (fps k)) → vals.all noTup = true →
    ((List.range vals.length).flatMap fps).Nodup → (∀ b, b ∈ (List.range vals.length).flatMap fps → ¬ S b) → (∀ b, S b → b < w.heap.size) →
    Goes P f args w fun z w' => ∃ S' fp fo, Post w S ((List.range vals.length).flatMap fps) (fun k => args.getD k Go.undef) vals.length r z w' S' fp fo

/-! ### Writes, one after the other -/
theorem appW_mem : ∀ (l : List (Nat × Option Ob)) (H : Nat → Option Ob) (i : Nat) (o : Option Ob), appW H l i = o → (i, o) ∈ l ∨ (H i = o ∧ ∀ x, x ∈ l → x.1 ≠ i)
  | [], H, i, o, h => .inr ⟨h, fun x hx => by cases hx⟩
  | (j, p) :: l, H, i, o, h => by
    rcases appW_mem l (upd H j p) i o h with h1 | ⟨h1, h2⟩
    · exact .inl (List.mem_cons_of_mem _ h1)
    · by_cases e : i = j
      · subst e
        rw [upd_same] at h1
        subst h1
        exact .inl (List.mem_cons_self ..)
      · rw [upd_ne _ _ _ _ e] at h1
        refine .inr ⟨h1, fun x hx => ?_⟩
        rcases List.mem_cons.1 hx with rfl | hx
        · exact fun e' => e e'.symm
        · exact h2 x hx
theorem appW_notin {l : List (Nat × Option Ob)} {H : Nat → Option Ob} {i : Nat} (h : ∀ x, x ∈ l → x.1 ≠ i) : appW H l i = H i := by
  rcases appW_mem l H i _ rfl with h1 | ⟨h1, _⟩
  · exact absurd rfl (h _ h1)
  · exact h1.symm

section
variable {B : Beg} {H : Nat → Option Ob} {w : World} {g : Gh} {P : Program} {b : Nat}

/-! ### Handing over -/
/-- What an argument owns comes from the objects that are handed over. -/
def From (H : Nat → Option Ob) (g : Gh) (own : List Nat) (fp : List Nat) : Prop := ∀ b, b ∈ fp → ∃ id ob, id ∈ own ∧ H id = some ob ∧ 1 ≤ ob.lv ∧ b ∈ g.F id

theorem leaf_tree (m : MR B H w g) {v u : V} {x : Value} {fp : List Nat} (h : CR w g.S g.J H v x fp) (e : expN H 0 v = some u) : TR w g.S u x fp := by
  rcases h with ⟨h, rfl⟩ | h
  · obtain ⟨f, t, _, t2⟩ := exp_sound m 0 h e (by simp [eidN])
    cases f with
    | nil => exact t
    | cons b f =>
      obtain ⟨id, hid, _⟩ := t2 b (List.mem_cons_self ..)
      simp [eidN] at hid
  · exact h.exp e
theorem ptr_sound (m : MR B H w g) {id ver off : Nat} {u : V} {x : Value} (h : VR w g.S g.J H (.ptr id ver off) x) (e : ptrU H (.ptr id ver off) = some u) :
    ∃ ob b us, off = 0 ∧ H id = some ob ∧ 1 ≤ ob.lv ∧ g.J id = some (some b) ∧ x = .pointer (some ⟨b, 0, none⟩) ∧ u = .uptr us ∧ us.length = ob.cells.length ∧ TR w g.S u x (g.F id) := by
  unfold ptrU at e
  simp only at e
  split at e
  · rename_i ob hob
    split at e
    · rename_i hc
      obtain ⟨rfl, hlv⟩ := hc
      obtain ⟨us, hus, rfl⟩ := Option.map_eq_some_iff.1 e
      obtain ⟨hH, hver⟩ := getO_some hob
      obtain ⟨a, rfl, hj, hp⟩ := h.ptr_inv
      obtain ⟨b, hJ, rfl⟩ := (hp ob hH).2 hver
      obtain ⟨arr, e', fr, fp0, hb, hz, hal, hcells, h1, hF⟩ := m.ob id ob _ hH hJ
      have hlen := mapM_len hus
      refine ⟨ob, b, us, rfl, hH, hlv, hJ, rfl, rfl, hlen, ?_⟩
      rw [hF, ← hlen]
      exact .uptr fp0 hb hz (by omega) (fun j hj => leaf_tree m (hcells j (by omega)) (mapM_at hus j (by omega) hj)) fun j hj => h1 j (by omega)
    · cases e
  · cases e

theorem ownX_sound (m : MR B H w g) {v u : V} {x : Value} (h : VR w g.S g.J H v x) (e : ownX H v = some u) (hn : (ownI H v).Nodup) : ∃ fp, TR w g.S u x fp ∧ fp.Nodup ∧ From H g (ownI H v) fp := by
  unfold ownX at e
  split at e
  · rename_i id ver off len
    split at e
    · split at e
      · obtain ⟨fp, h1, h2⟩ := exp_sound m depth h e hn
        refine ⟨fp, h1, h2.1, fun c hc => ?_⟩
        obtain ⟨i, hi, hF, _⟩ := h2.2 c hc
        obtain ⟨ob, ho, hl⟩ := eid_lv depth e i hi
        exact ⟨i, ob, hi, ho, by omega, hF⟩
      · cases e
    · cases e
  · rename_i id ver off
    obtain ⟨ob, b, us, rfl, hH, hlv, hJ, rfl, rfl, _, ht⟩ := ptr_sound m h e
    exact ⟨_, ht, m.nd id ob hH, fun c hc => ⟨id, ob, List.mem_cons_self .., hH, hlv, hc⟩⟩
  · cases e

theorem expX_sound (m : MR B H w g) {v u : V} {x : Value} (h : VR w g.S g.J H v x) (e : expN H depth v = some u) (hn : (eidN H depth v).Nodup) : ∃ fp, TR w g.S u x fp ∧ fp.Nodup ∧ From H g (eidN H depth v) fp := by
  obtain ⟨fp, h1, h2⟩ := exp_sound m depth h e hn
  refine ⟨fp, h1, h2.1, fun c hc => ?_⟩
  obtain ⟨i, hi, hF, _⟩ := h2.2 c hc
  obtain ⟨ob, ho, hl⟩ := eid_lv depth e i hi
  exact ⟨i, ob, hi, ho, by omega, hF⟩

/-- Blocks of objects that are read. -/
def RdS (H : Nat → Option Ob) (g : Gh) (rd : List Nat) (b : Nat) : Prop := ∃ id ob, id ∈ rd ∧ H id = some ob ∧ b ∈ g.F id

theorem from_apart (m : MR B H w g) {o1 o2 f1 f2 : List Nat} (h1 : From H g o1 f1) (h2 : From H g o2 f2) (hne : ∀ a, a ∈ o1 → a ∉ o2) : ∀ c, c ∈ f1 → c ∉ f2 := fun c hc hc' => by
  obtain ⟨i1, p1, m1, e1, _, g1⟩ := h1 c hc
  obtain ⟨i2, p2, m2, e2, _, g2⟩ := h2 c hc'
  by_cases e : i1 = i2
  · subst e; exact hne i1 m1 m2
  · exact m.dj i1 i2 p1 p2 e e1 e2 c g1 g2

/-- The objects that are read are there. -/
theorem idsN_some : ∀ (k : Nat) (v : V) (id : Nat), id ∈ idsN H k v → ∃ ob, H id = some ob := by
  intro k
  induction k with
  | zero => intro v id h; simp [idsN] at h
  | succ k ih =>
    intro v id h
    have lst : ∀ {cs : List V}, id ∈ cs.flatMap (idsN H k) → ∃ ob, H id = some ob := fun {cs} h => by
      obtain ⟨c, _, hc⟩ := List.mem_flatMap.1 h
      exact ih c id hc
    cases v with
    | sl i ver off len =>
      simp only [idsN] at h
      split at h
      · rename_i ob hob
        rcases List.mem_cons.1 h with rfl | h
        · exact ⟨ob, (getO_some hob).1⟩
        · exact lst h
      · cases h
    | ptr i ver off =>
      simp only [idsN] at h
      split at h
      · rename_i ob hob
        rcases List.mem_cons.1 h with rfl | h
        · exact ⟨ob, (getO_some hob).1⟩
        · exact lst h
      · cases h
    | uniq sz n cs => simp only [idsN] at h; exact lst h
    | agg cs => simp only [idsN] at h; exact lst h
    | tup cs => simp only [idsN] at h; exact lst h
    | iface t v => simp only [idsN] at h; exact ih v id h
    | func f fi ca =>
      simp only [idsN] at h
      rcases List.mem_append.1 h with h | h
      · exact lst h
      · exact lst h
    | _ => simp [idsN] at h

theorem prepA_sound (m : MR B H w g) {md : Nat} {a : V} {p : AP} {x : Value} (e : prepA H md a = some p) (h : VR w g.S g.J H a x) (hn : p.own.Nodup) {S' : Nat → Prop} (hS : ∀ b, g.S b → S' b) (hR : ∀ b, RdS H g p.rd b → S' b) :
    ∃ fp, TR w S' p.v x fp ∧ fp.Nodup ∧ From H g p.own fp := by
  have share : ∀ {q : AP}, ((purN H depth a).map fun v => ({ v, rd := idsN H depth a } : AP)) = some q → p = q → ∃ fp, TR w S' p.v x fp ∧ fp.Nodup ∧ From H g p.own fp := fun {q} hq e => by
    subst e
    obtain ⟨v, hv, rfl⟩ := Option.map_eq_some_iff.1 hq
    refine ⟨[], .pr (pur_sound m hS depth h hv fun id hid c hc => ?_), List.nodup_nil, fun c hc => by cases hc⟩
    obtain ⟨ob, ho⟩ := idsN_some depth a id hid
    exact hR c ⟨id, ob, hid, ho, hc⟩
  have mono : ∀ {u : V} {fp : List Nat} {y : Value}, TR w g.S u y fp → TR w S' u y fp := fun h => h.mono hS (fun _ _ => rfl) fun _ _ => rfl
  unfold prepA at e
  simp only at e
  split at e
  · split at e
    · rename_i cs
      split at e
      · rename_i cs' hcs'
        simp only [Option.some.injEq] at e
        subst e
        obtain ⟨arr, rfl, hl, hc, h1⟩ := h.agg_inv
        have hlen := mapM_len hcs'
        simp only at hn
        obtain ⟨n1, n2⟩ := nodup_flatMap_at hn
        have H1 : ∀ j, j < cs'.length → ∃ f, ∀ (hj : j < cs'.length) (hj2 : j < cs.length), TR w g.S cs'[j] (arr.getD j Go.undef) f ∧ f.Nodup ∧ From H g (if isRefV cs[j] = true then ownI H cs[j] else eidN H depth cs[j]) f := fun j hj => by
          have hm := mapM_at hcs' j (by omega) hj
          have hnj := n1 j (by omega)
          have hcj := hc j (by omega)
          by_cases hr : isRefV (cs[j]'(by omega)) = true
          · simp only [hr, if_true] at hm hnj
            obtain ⟨f, hf⟩ := ownX_sound m hcj hm hnj
            exact ⟨f, fun _ _ => by simpa only [hr, if_true] using hf⟩
          · simp only [hr] at hm hnj
            obtain ⟨f, hf⟩ := expX_sound m hcj hm hnj
            exact ⟨f, fun _ _ => by rw [if_neg hr]; exact hf⟩
        obtain ⟨fp, hfp⟩ := choose_fp H1
        have hall : ∀ j (hj : j < cs'.length), TR w g.S cs'[j] (arr.getD j Go.undef) (fp j) ∧ (fp j).Nodup ∧ From H g (if isRefV (cs[j]'(by omega)) = true then ownI H (cs[j]'(by omega)) else eidN H depth (cs[j]'(by omega))) (fp j) := fun j hj => hfp j hj hj (by omega)
        refine ⟨_, .agg fp (by omega) (fun j hj => mono (hall j hj).1) fun j hj => h1 j (by omega), nodup_fm.2 ⟨fun j hj => (hall j hj).2.1, fun i j hij hj c hc hc' => from_apart m (hall i (by omega)).2.2 (hall j hj).2.2 (n2 i j (by omega) (by omega) (by omega)) c hc hc'⟩, fun c hc => ?_⟩
        obtain ⟨j, hj, hc⟩ := mem_fm.1 hc
        obtain ⟨id, ob, q1, q2, q3, q4⟩ := (hall j hj).2.2 c hc
        exact ⟨id, ob, List.mem_flatMap.2 ⟨_, List.getElem_mem (by omega : j < cs.length), q1⟩, q2, q3, q4⟩
      · cases e
    · split at e
      · obtain ⟨v, hv, rfl⟩ := Option.map_eq_some_iff.1 e
        obtain ⟨fp, h1, h2, h3⟩ := ownX_sound m h hv hn
        exact ⟨fp, mono h1, h2, h3⟩
      · exact share e rfl
  · split at e
    · split at e
      · rename_i u hu
        simp only [Option.some.injEq] at e
        subst e
        obtain ⟨fp, h1, h2, h3⟩ := expX_sound m h hu hn
        exact ⟨fp, mono h1, h2, h3⟩
      · exact share e rfl
    · split at e
      · rename_i u hu
        simp only [Option.some.injEq] at e
        subst e
        obtain ⟨fp, h1, h2, h3⟩ := expX_sound m h hu hn
        exact ⟨fp, mono h1, h2, h3⟩
      · exact share e rfl
    · exact share e rfl
  · exact share e rfl

theorem prepL_len : ∀ {ms : List Nat} {as : List V} {ps : List AP}, prepL H ms as = some ps → ps.length = as.length
  | ms, [], ps, h => by simp [prepL] at h; subst h; rfl
  | ms, a :: as, ps, h => by
    simp only [prepL] at h
    split at h
    · rename_i p qs h1 h2
      injection h with h
      subst h
      simp [prepL_len h2]
    · cases h

theorem prepL_sound (m : MR B H w g) {S' : Nat → Prop} (hS : ∀ b, g.S b → S' b) : ∀ {ms : List Nat} {as : List V} {ps : List AP} {xs : Nat → Value}, prepL H ms as = some ps → (∀ k (hk : k < as.length), VR w g.S g.J H as[k] (xs k)) → (ps.flatMap (·.own)).Nodup → (∀ b, RdS H g (ps.flatMap (·.rd)) b → S' b) →
    ∃ fps : Nat → List Nat, ∀ k (hk : k < ps.length), TR w S' ps[k].v (xs k) (fps k) ∧ (fps k).Nodup ∧ From H g ps[k].own (fps k)
  | ms, [], ps, xs, h, _, _, _ => by
    simp [prepL] at h
    subst h
    exact ⟨fun _ => [], fun k hk => by simp at hk⟩
  | ms, a :: as, ps, xs, h, hv, hn, hR => by
    simp only [prepL] at h
    split at h
    · rename_i p qs h1 h2
      injection h with h
      subst h
      rw [List.flatMap_cons, List.nodup_append] at hn
      obtain ⟨f0, t0⟩ := prepA_sound m h1 (hv 0 (by simp)) hn.1 hS (fun c ⟨id, ob, q1, q2, q3⟩ => hR c ⟨id, ob, by rw [List.flatMap_cons]; exact List.mem_append.2 (.inl q1), q2, q3⟩)
      obtain ⟨fr, tr⟩ := prepL_sound m hS (xs := fun k => xs (k + 1)) h2 (fun k hk => hv (k + 1) (by simpa using hk)) hn.2.1 (fun c ⟨id, ob, q1, q2, q3⟩ => hR c ⟨id, ob, by rw [List.flatMap_cons]; exact List.mem_append.2 (.inr q1), q2, q3⟩)
      refine ⟨fun k => match k with | 0 => f0 | k + 1 => fr k, fun k hk => ?_⟩
      cases k with
      | zero => exact t0
      | succ k => exact tr k (by simpa using hk)
    · cases h

/-- No cell of these objects owns a row: their blocks are theirs alone. -/
theorem flat_own (m : MR B H w g) {ids : List Nat} (hf : flatO H ids = true) {id c : Nat} {ob : Ob} (hid : id ∈ ids) (hH : H id = some ob) (hc : c ∈ g.F id) : g.J id = some (some c) := by
  cases hj : g.J id with
  | none => exact absurd hj (m.hj id ob hH)
  | some jo =>
    have ho := m.ob id ob jo hH hj
    cases jo with
    | none => rw [ho.2] at hc; cases hc
    | some blk =>
      obtain ⟨arr, e, fr, fp, hb, hz, hl, hcs, h1, hF⟩ := ho
      rw [hF] at hc
      rcases List.mem_cons.1 hc with rfl | hc
      · rfl
      · obtain ⟨k, hk, hc⟩ := mem_fm.1 hc
        unfold flatO at hf
        have := List.all_eq_true.1 hf id hid
        simp only [hH] at this
        have hu := List.all_eq_true.1 this _ (List.getElem_mem hk)
        rw [(hcs k hk).flat (by simpa using hu) (h1 k hk)] at hc
        cases hc
end

end Go.Proofs.Ytacfkfdnncgjcaa.Ev
end

section
set_option linter.unusedVariables false
set_option linter.unusedSimpArgs false
namespace Go.Proofs.Ytacfkfdnncgjcaa.Ev
open Go

/-- Objects that were handed over: what is written of them. -/
structure Ent (w' : World) (S1 : Nat → Prop) (H : Nat → Option Ob) (g : Gh) (own fo : List Nat) (l : List (Nat × Option Ob)) (G : Nat → List Nat) : Prop where
  ent : ∀ x, x ∈ l → (x.2 = none ∧ x.1 ∈ own) ∨ ∃ (ob : Ob) (cs : List V) (jo : Option Nat), x.2 = some { ob with cells := cs } ∧ H x.1 = some ob ∧ x.1 ∈ own ∧ g.J x.1 = some jo ∧ ∀ J' H', OR w' S1 J' H' { ob with cells := cs } jo (G x.1)
  nd : ∀ i, i ∈ own → (G i).Nodup ∧ ∀ c, c ∈ G i → c ∈ fo
  dj : ∀ i j, i ∈ own → j ∈ own → i ≠ j → ∀ c, c ∈ G i → c ∉ G j

section
variable {B : Beg} {H : Nat → Option Ob} {w w' : World} {g : Gh} {P : Program} {b : Nat} {S1 : Nat → Prop}

theorem Ent.nil (own fo : List Nat) : Ent w' S1 H g own fo [] (fun _ => []) := ⟨fun x hx => (by cases hx), fun i _ => ⟨List.nodup_nil, fun c hc => (by cases hc)⟩, fun i j _ _ _ c hc => (by cases hc)⟩

theorem Ent.join {o1 o2 f1 f2 : List Nat} {l1 l2 : List (Nat × Option Ob)} {G1 G2 : Nat → List Nat} (e1 : Ent w' S1 H g o1 f1 l1 G1) (e2 : Ent w' S1 H g o2 f2 l2 G2) (ho : ∀ a, a ∈ o1 → a ∉ o2) (hf : ∀ a, a ∈ f1 → a ∉ f2) :
    Ent w' S1 H g (o1 ++ o2) (f1 ++ f2) (l1 ++ l2) (fun i => if i ∈ o1 then G1 i else G2 i) where
  ent := fun x hx => by
    rcases List.mem_append.1 hx with hx | hx
    · rcases e1.ent x hx with ⟨h1, h2⟩ | ⟨ob, cs, jo, h1, h2, h3, h4, h5⟩
      · exact .inl ⟨h1, List.mem_append.2 (.inl h2)⟩
      · exact .inr ⟨ob, cs, jo, h1, h2, List.mem_append.2 (.inl h3), h4, by simpa only [h3, if_true] using h5⟩
    · rcases e2.ent x hx with ⟨h1, h2⟩ | ⟨ob, cs, jo, h1, h2, h3, h4, h5⟩
      · exact .inl ⟨h1, List.mem_append.2 (.inr h2)⟩
      · have : x.1 ∉ o1 := fun h => ho _ h h3
        exact .inr ⟨ob, cs, jo, h1, h2, List.mem_append.2 (.inr h3), h4, by simpa only [this, if_false] using h5⟩
  nd := fun i hi => by
    by_cases h : i ∈ o1
    · simp only [h, if_true]
      exact ⟨(e1.nd i h).1, fun c hc => List.mem_append.2 (.inl ((e1.nd i h).2 c hc))⟩
    · simp only [h, if_false]
      have h2 : i ∈ o2 := (List.mem_append.1 hi).resolve_left h
      exact ⟨(e2.nd i h2).1, fun c hc => List.mem_append.2 (.inr ((e2.nd i h2).2 c hc))⟩
  dj := fun i j hi hj hne c hc hc' => by
    by_cases h : i ∈ o1 <;> by_cases h2 : j ∈ o1 <;> simp only [h, h2, if_true, if_false] at hc hc'
    · exact e1.dj i j h h2 hne c hc hc'
    · exact hf c ((e1.nd i h).2 c hc) ((e2.nd j ((List.mem_append.1 hj).resolve_left h2)).2 c hc')
    · exact hf c ((e1.nd j h2).2 c hc') ((e2.nd i ((List.mem_append.1 hi).resolve_left h)).2 c hc)
    · exact e2.dj i j ((List.mem_append.1 hi).resolve_left h) ((List.mem_append.1 hj).resolve_left h2) hne c hc hc'

theorem Ent.gone {own fo : List Nat} {l : List (Nat × Option Ob)} {G : Nat → List Nat} (e : Ent w' S1 H g own fo l G) : Ent w' S1 H g own fo ((own.map fun i => (i, none)) ++ l) G where
  ent := fun x hx => by
    rcases List.mem_append.1 hx with hx | hx
    · obtain ⟨i, hi, rfl⟩ := List.mem_map.1 hx
      exact .inl ⟨rfl, hi⟩
    · exact e.ent x hx
  nd := e.nd
  dj := e.dj

theorem backO_sound (m : MR B H w g) {a o : V} {x : Value} {l : List (Nat × Option Ob)} {fo : List Nat} (hv : VR w g.S g.J H a x) (ho : isRefV a = true → ∃ u, ownX H a = some u) (e : backO H a o = some l) (hc : OutC w' S1 o x fo) (hn : fo.Nodup) :
    ∃ G, Ent w' S1 H g (ownI H a) fo l G := by
  unfold backO at e
  split at e
  · rename_i id ver off len sz n cs
    split at e
    · rename_i ob hH
      split at e
      · rename_i hcond
        obtain ⟨rfl, hcl⟩ := hcond
        simp only [Option.some.injEq] at e
        subst e
        obtain ⟨u, hu⟩ := ho rfl
        unfold ownX at hu
        simp only at hu
        split at hu
        · rename_i ob' hob'
          obtain ⟨hH', hver⟩ := getO_some hob'
          rw [hH] at hH'
          injection hH' with hH'
          subst hH'
          split at hu
          · rename_i hlen
            have hoff : off = 0 := by
              simp only [depth, expN, hob'] at hu
              split at hu
              · rename_i hc; exact hc.2.1
              · cases hu
            subst hoff
            have hmem : id ∈ ownI H (.sl id ver 0 len) := by
              simp only [ownI, depth, eidN, hob']
              exact List.mem_cons_self ..
            obtain ⟨A, c, rfl, hj, hlc, hcm, hA0, hp⟩ := hv.sl_inv
            rcases hc with ⟨h, _⟩ | ⟨_, ht⟩
            · cases h
            · refine ⟨fun i => if i = id then fo else [], ⟨fun y hy => ?_, fun i hi => ?_, fun i j hi hj hne c hc hc' => ?_⟩⟩
              · simp only [List.mem_singleton] at hy
                subst hy
                refine .inr ⟨ob, cs, ?_⟩
                rcases (hp ob hH).2 hver with ⟨hc0, hl0, hj0⟩ | ⟨hc1, blk, hJ, rfl, hcap⟩
                · refine ⟨none, rfl, hH, hmem, hj0 rfl, fun J' H' => ?_⟩
                  simp only [if_true]
                  cases ht with
                  | pr h => cases h
                  | unil => exact ⟨rfl, rfl⟩
                  | uniq fp hb hz hl hc' hn' hm hc1 h h1 => omega
                · refine ⟨some blk, rfl, hH, hmem, hJ, fun J' H' => ?_⟩
                  simp only [if_true]
                  cases ht with
                  | pr h => cases h
                  | unil => omega
                  | uniq fp hb hz hl hc' hn' hm' hc1 h h1 =>
                    exact ⟨_, _, _, fp, hb, hz, by rw [hl]; exact Nat.le_trans (Nat.mul_le_mul_right _ hn') hc', fun k hk => .inr (h k hk), h1, rfl⟩
              · by_cases h : i = id
                · simp only [h, if_true]; exact ⟨hn, fun c hc => hc⟩
                · simp only [h, if_false]; exact ⟨List.nodup_nil, fun c hc => by cases hc⟩
              · by_cases h : i = id
                · have h2 : ¬ j = id := fun h2 => hne (h.trans h2.symm)
                  simp only [h2, if_false] at hc'; cases hc'
                · simp only [h, if_false] at hc; cases hc
          · cases hu
        · cases hu
      · cases e
    · cases e
  · cases e
  · rename_i id ver off cs
    split at e
    · rename_i ob hH
      split at e
      · rename_i hcl
        simp only [Option.some.injEq] at e
        subst e
        obtain ⟨u, hu⟩ := ho rfl
        obtain ⟨ob', b, us, rfl, hH', hlv, hJ, rfl, rfl, _, _⟩ := ptr_sound m hv hu
        rcases hc with ⟨h, _⟩ | ⟨_, ht⟩
        · cases h
        · refine ⟨fun i => if i = id then fo else [], ⟨fun y hy => ?_, fun i hi => ?_, fun i j hi hj hne c hc hc' => ?_⟩⟩
          · simp only [List.mem_singleton] at hy
            subst hy
            refine .inr ⟨ob, cs, some b, rfl, hH, List.mem_cons_self .., hJ, fun J' H' => ?_⟩
            simp only [if_true]
            cases ht with
            | pr h => cases h
            | uptr fp hb hz hl h h1 => exact ⟨_, _, _, fp, hb, hz, hl, fun k hk => .inr (h k hk), h1, rfl⟩
          · by_cases h : i = id
            · simp only [h, if_true]; exact ⟨hn, fun c hc => hc⟩
            · simp only [h, if_false]; exact ⟨List.nodup_nil, fun c hc => by cases hc⟩
          · by_cases h : i = id
            · have h2 : ¬ j = id := fun h2 => hne (h.trans h2.symm)
              simp only [h2, if_false] at hc'; cases hc'
            · simp only [h, if_false] at hc; cases hc
      · cases e
    · cases e
  · cases e
  · simp only [Option.some.injEq] at e
    subst e
    exact ⟨_, .nil _ _⟩

theorem backL_sound (m : MR B H w g) : ∀ {as os : List V} {xs : Nat → Value} {l : List (Nat × Option Ob)} {fo : Nat → List Nat}, backL H as os = some l → (∀ k (hk : k < as.length), VR w g.S g.J H as[k] (xs k)) →
    (∀ k (hk : k < as.length), isRefV as[k] = true → ∃ u, ownX H as[k] = some u) → (∀ k (hk : k < os.length), OutC w' S1 os[k] (xs k) (fo k)) → ((List.range os.length).flatMap fo).Nodup →
    (as.flatMap fun c => if isRefV c = true then ownI H c else eidN H depth c).Nodup → ∃ G, Ent w' S1 H g (as.flatMap fun c => if isRefV c = true then ownI H c else eidN H depth c) ((List.range os.length).flatMap fo) l G
  | [], [], xs, l, fo, e, _, _, _, _, _ => by
    simp only [backL, Option.some.injEq] at e
    subst e
    exact ⟨_, .nil _ _⟩
  | a :: as, [], _, _, _, e, _, _, _, _, _ => by simp [backL] at e
  | [], o :: os, _, _, _, e, _, _, _, _, _ => by simp [backL] at e
  | a :: as, o :: os, xs, l, fo, e, hv, ho, hc, hn, hd => by
    simp only [backL] at e
    split at e
    · rename_i l1 l2 e1 e2
      simp only [Option.some.injEq] at e
      subst e
      have hsplit : (List.range (o :: os).length).flatMap fo = fo 0 ++ (List.range os.length).flatMap fun k => fo (k + 1) := by
        rw [List.length_cons, List.range_succ_eq_map, List.flatMap_cons, List.flatMap_map]
      rw [hsplit, List.nodup_append] at hn
      rw [List.flatMap_cons, List.nodup_append] at hd
      obtain ⟨G1, t1⟩ := backO_sound m (hv 0 (by simp)) (ho 0 (by simp)) e1 (hc 0 (by simp)) hn.1
      obtain ⟨G2, t2⟩ := backL_sound m (xs := fun k => xs (k + 1)) (fo := fun k => fo (k + 1)) e2 (fun k hk => hv (k + 1) (by simpa using hk)) (fun k hk => ho (k + 1) (by simpa using hk)) (fun k hk => hc (k + 1) (by simpa using hk)) hn.2.1 hd.2.1
      have t1' : ∃ G, Ent w' S1 H g (if isRefV a = true then ownI H a else eidN H depth a) (fo 0) l1 G := by
        by_cases h : isRefV a = true
        · exact ⟨G1, by rw [if_pos h]; exact t1⟩
        · have hl1 : l1 = [] := by
            unfold backO at e1
            split at e1
            · exact absurd rfl h
            · exact absurd rfl h
            · exact absurd rfl h
            · exact absurd rfl h
            · simpa using e1.symm
          subst hl1
          exact ⟨_, .nil _ _⟩
      obtain ⟨G1', t1'⟩ := t1'
      rw [hsplit, List.flatMap_cons]
      exact ⟨_, t1'.join t2 (fun x hx hx' => hd.2.2 x hx x hx' rfl) fun x hx hx' => hn.2.2 x hx x hx' rfl⟩
    · cases e

theorem back1_sound (m : MR B H w g) {md : Nat} {a o : V} {p : AP} {x : Value} {l : List (Nat × Option Ob)} {fo : List Nat} (hp : prepA H md a = some p) (hv : VR w g.S g.J H a x) (hd : p.own.Nodup)
    (e : (if p.back then (match a, o with
        | .agg cs, .agg os => backL H cs os
        | a, o => backO H a o) else some []) = some l) (hc : OutA w' S1 o x fo) (hn : fo.Nodup) : ∃ G, Ent w' S1 H g p.own fo l G := by
  have none : p.back = false → ∃ G, Ent w' S1 H g p.own fo l G := fun hb => by
    rw [hb] at e
    simp only [Bool.false_eq_true, if_false, Option.some.injEq] at e
    subst e
    exact ⟨_, .nil _ _⟩
  have share : ∀ {q : AP}, ((purN H depth a).map fun v => ({ v, rd := idsN H depth a } : AP)) = some q → p = q → ∃ G, Ent w' S1 H g p.own fo l G := fun {q} hq e => by
    subst e
    obtain ⟨v, _, rfl⟩ := Option.map_eq_some_iff.1 hq
    exact none rfl
  unfold prepA at hp
  simp only at hp
  split at hp
  · split at hp
    · rename_i cs
      split at hp
      · rename_i cs' hcs'
        simp only [Option.some.injEq] at hp
        subst hp
        simp only [if_true] at e
        split at e
        · rename_i cs2 os heq
          injection heq with heq
          subst heq
          rcases hc with ⟨os', arr, fos, ho, rfl, hl, hcc, rfl⟩ | ⟨_, hna, _⟩ | ⟨h, _⟩
          · injection ho with ho
            subst ho
            obtain ⟨arr', harr, hl', hvc, _⟩ := hv.agg_inv
            injection harr with harr
            subst harr
            exact backL_sound m e hvc (fun k hk hr => by
              have hm := mapM_at hcs' k hk (by rw [mapM_len hcs']; exact hk)
              simp only [hr, if_true] at hm
              exact ⟨_, hm⟩) hcc hn hd
          · exact absurd rfl (hna _)
          · cases h
        · have : l = [] := by
            simp only [backO, Option.some.injEq] at e
            exact e.symm
          subst this
          exact ⟨_, .nil _ _⟩
      · cases hp
    · rename_i hna
      split at hp
      · rename_i hr
        obtain ⟨v, hv', rfl⟩ := Option.map_eq_some_iff.1 hp
        simp only [if_true] at e
        have e' : backO H a o = some l := by
          split at e
          · exact absurd rfl (hna _)
          · exact e
        rcases hc with ⟨os', arr, fos, rfl, _⟩ | hc
        · exfalso
          unfold isRefV at hr
          split at hr
          · simp [backO] at e'
          · simp [backO] at e'
          · cases hr
        · exact backO_sound m hv (fun _ => ⟨v, hv'⟩) e' hc hn
      · exact share hp rfl
  · split at hp
    · split at hp
      · simp only [Option.some.injEq] at hp
        subst hp
        exact none rfl
      · exact share hp rfl
    · split at hp
      · simp only [Option.some.injEq] at hp
        subst hp
        exact none rfl
      · exact share hp rfl
    · exact share hp rfl
  · exact share hp rfl

theorem backW_sound (m : MR B H w g) : ∀ {as : List V} {ms : List Nat} {ps : List AP} {os : List V} {xs : Nat → Value} {l : List (Nat × Option Ob)} {fo : Nat → List Nat}, prepL H ms as = some ps → backW H as ps os = some l →
    (∀ k (hk : k < as.length), VR w g.S g.J H as[k] (xs k)) → (∀ k (hk : k < os.length), OutA w' S1 os[k] (xs k) (fo k)) → ((List.range os.length).flatMap fo).Nodup → (ps.flatMap (·.own)).Nodup →
    ∃ G, Ent w' S1 H g (ps.flatMap (·.own)) ((List.range os.length).flatMap fo) l G
  | [], ms, ps, os, xs, l, fo, hp, e, _, _, _, _ => by
    simp only [prepL, Option.some.injEq] at hp
    subst hp
    simp only [backW, Option.some.injEq] at e
    subst e
    exact ⟨_, .nil _ _⟩
  | a :: as, ms, ps, os, xs, l, fo, hp, e, hv, hc, hn, hd => by
    simp only [prepL] at hp
    split at hp
    · rename_i p qs h1 h2
      injection hp with hp
      subst hp
      simp only [backW] at e
      split at e
      · rename_i x y hx hy
        simp only [Option.some.injEq] at e
        subst e
        rw [List.flatMap_cons, List.nodup_append] at hd
        rw [List.flatMap_cons]
        cases os with
        | nil =>
          obtain ⟨G1, t1⟩ := back1_sound m (w' := w') (S1 := S1) (fo := []) h1 (hv 0 (by simp)) hd.1 hx (.inr (.inl ⟨rfl, fun cs h => (by cases h), rfl⟩)) List.nodup_nil
          obtain ⟨G2, t2⟩ := backW_sound m (os := []) (xs := fun k => xs (k + 1)) (fo := fo) h2 hy (fun k hk => hv (k + 1) (by simpa using hk)) (fun k hk => by simp at hk) List.nodup_nil hd.2.1
          exact ⟨_, t1.gone.join t2 (fun x hx hx' => hd.2.2 x hx x hx' rfl) fun x hx => by cases hx⟩
        | cons o os =>
          have hsplit : (List.range (o :: os).length).flatMap fo = fo 0 ++ (List.range os.length).flatMap fun k => fo (k + 1) := by
            rw [List.length_cons, List.range_succ_eq_map, List.flatMap_cons, List.flatMap_map]
          rw [hsplit] at hn ⊢
          rw [List.nodup_append] at hn
          obtain ⟨G1, t1⟩ := back1_sound m h1 (hv 0 (by simp)) hd.1 hx (hc 0 (by simp)) hn.1
          obtain ⟨G2, t2⟩ := backW_sound m (xs := fun k => xs (k + 1)) (fo := fun k => fo (k + 1)) h2 hy (fun k hk => hv (k + 1) (by simpa using hk)) (fun k hk => hc (k + 1) (by simpa using hk)) hn.2.1 hd.2.1
          exact ⟨_, t1.gone.join t2 (fun x hx hx' => hd.2.2 x hx x hx' rfl) fun x hx hx' => hn.2.2 x hx x hx' rfl⟩
      · cases e
    · cases hp
end

end Go.Proofs.Ytacfkfdnncgjcaa.Ev
end

section
set_option linter.unusedVariables false
set_option linter.unusedSimpArgs false
namespace Go.Proofs.Ytacfkfdnncgjcaa.Ev
open Go

theorem OutC.strict {w : World} {S S' : Nat → Prop} {o : V} {z : Value} {fo : List Nat} (h : OutC w S o z fo) {k : Nat} (ht : treeN k o = true) : OutC w S' o z fo :=
  h.imp (fun h => h) fun h => ⟨h.1, h.2.strict S' ht⟩
theorem OutA.strict {w : World} {S S' : Nat → Prop} {o : V} {z : Value} {fo : List Nat} (h : OutA w S o z fo) (ht : treeN depth o = true) : OutA w S' o z fo := by
  rcases h with ⟨os, arr, fos, rfl, rfl, hl, hc, rfl⟩ | h
  · refine .inl ⟨os, arr, fos, rfl, rfl, hl, fun k hk => (hc k hk).strict (k := 5) ?_, rfl⟩
    have ht' : os.all (treeN 5) = true := ht
    exact List.all_eq_true.1 ht' _ (List.getElem_mem hk)
  · exact .inr (h.strict ht)

section
variable {B : Beg} {H : Nat → Option Ob} {w w' : World} {g : Gh} {P : Program} {b : Nat}

/-- The memory behind a call, the result aside. -/
theorem call_mem (m : MR B H w g) {own rd fpA foA : List Nat} {bw : List (Nat × Option Ob)} {S1 : Nat → Prop} {G : Nat → List Nat} (frz : Bool)
    (hos : w'.os = w.os) (htape : w'.tape = w.tape) (hout : w'.output = w.output) (hsize : w.heap.size ≤ w'.heap.size) (hfm : ∀ c, c < w.heap.size → c ∉ fpA → w'.heap[c]? = w.heap[c]?) (hbs : ∀ c, c < w.heap.size → bsz w' c = bsz w c)
    (hS : ∀ c, g.S c → S1 c) (hlt : ∀ c, S1 c → c < w'.heap.size) (hs1 : ∀ c, S1 c → g.S c ∨ (frz = true ∧ (RdS H g rd c ∨ w.heap.size ≤ c ∨ c ∈ fpA)))
    (hfp : From H g own fpA) (hfpS : ∀ c, c ∈ fpA → ¬ g.S c) (hor : ∀ i, i ∈ own → i ∉ rd) (he : Ent w' S1 H g own foA bw G) (hall : ∀ i, i ∈ own → ∃ x, x ∈ bw ∧ x.1 = i) (hfo : ∀ c, c ∈ foA → (c ∈ fpA ∨ w.heap.size ≤ c) ∧ ¬ S1 c) :
    ∃ g1, g1.S = S1 ∧ g1.J = g.J ∧ MR B (appW H (bw ++ (if frz then freezeW H rd else []))) w' g1 ∧ Pers w g.S g.J H w' S1 g.J (appW H (bw ++ (if frz then freezeW H rd else []))) ∧
      (∀ id ob, appW H (bw ++ (if frz then freezeW H rd else [])) id = some ob → ∀ c, c ∈ g1.F id → (∃ ob0, H id = some ob0 ∧ id ∉ own ∧ c ∈ g.F id) ∨ c ∈ foA) := by
  -- what is written
  have hfz : ∀ x, x ∈ (if frz then freezeW H rd else []) → ∃ ob, frz = true ∧ x.2 = some { ob with lv := 0 } ∧ H x.1 = some ob ∧ x.1 ∈ rd := fun x hx => by
    cases hf : frz with
    | false => rw [hf] at hx; cases hx
    | true =>
      rw [hf] at hx
      simp only [if_true] at hx
      unfold freezeW at hx
      obtain ⟨i, hi, hx⟩ := List.mem_filterMap.1 hx
      obtain ⟨ob, ho, rfl⟩ := Option.map_eq_some_iff.1 hx
      exact ⟨ob, rfl, rfl, ho, hi⟩
  generalize hl : bw ++ (if frz then freezeW H rd else []) = l
  have inl : ∀ x, x ∈ l → (x.2 = none ∧ x.1 ∈ own) ∨ (∃ (ob : Ob) (cs : List V) (jo : Option Nat), x.2 = some { ob with cells := cs } ∧ H x.1 = some ob ∧ x.1 ∈ own ∧ g.J x.1 = some jo ∧ ∀ J' H', OR w' S1 J' H' { ob with cells := cs } jo (G x.1)) ∨
      ∃ ob, frz = true ∧ x.2 = some { ob with lv := 0 } ∧ H x.1 = some ob ∧ x.1 ∈ rd := fun x hx => by
    rw [← hl] at hx
    rcases List.mem_append.1 hx with hx | hx
    · rcases he.ent x hx with h | h
      · exact .inl h
      · exact .inr (.inl h)
    · exact .inr (.inr (hfz x hx))
  -- the objects that are as they were
  let C : Nat → Prop := fun id => id ∈ own ∨ (frz = true ∧ id ∈ rd)
  have same : ∀ id, ¬ C id → appW H l id = H id := fun id hc => appW_notin fun x hx e => by
    rcases inl x hx with ⟨_, h⟩ | ⟨_, _, _, _, _, h, _⟩ | ⟨_, hf, _, _, h⟩
    · exact hc (.inl (e ▸ h))
    · exact hc (.inl (e ▸ h))
    · exact hc (.inr ⟨hf, e ▸ h⟩)
  let g1 : Gh := ⟨g.J, S1, fun id => if id ∈ own then G id else g.F id⟩
  -- an object behind the call
  have cases3 : ∀ id ob1, appW H l id = some ob1 → (id ∈ own ∧ ∃ (ob : Ob) (cs : List V) (jo : Option Nat), ob1 = { ob with cells := cs } ∧ H id = some ob ∧ g.J id = some jo ∧ ∀ J' H', OR w' S1 J' H' ob1 jo (G id)) ∨
      (id ∉ own ∧ ∃ ob, H id = some ob ∧ ob1.ver = ob.ver ∧ ob1.sz = ob.sz ∧ ob1.cells = ob.cells ∧ ((ob1 = ob ∧ ¬ (frz = true ∧ id ∈ rd)) ∨ (frz = true ∧ id ∈ rd ∧ ob1.lv = 0))) := fun id ob1 h => by
    by_cases ho : id ∈ own
    · rcases appW_mem l H id _ h with hm | ⟨h1, h2⟩
      · rcases inl _ hm with ⟨h3, _⟩ | ⟨ob, cs, jo, h3, h4, _, h5, h6⟩ | ⟨_, _, _, _, h3⟩
        · cases h3
        · simp only [Option.some.injEq] at h3
          subst h3
          exact .inl ⟨ho, ob, cs, jo, rfl, h4, h5, h6⟩
        · exact absurd h3 (hor id ho)
      · obtain ⟨x, hx, hxi⟩ := hall id ho
        exact absurd hxi (h2 x (by rw [← hl]; exact List.mem_append.2 (.inl hx)))
    · refine .inr ⟨ho, ?_⟩
      rcases appW_mem l H id _ h with hm | ⟨h1, h2⟩
      · rcases inl _ hm with ⟨_, h3⟩ | ⟨_, _, _, _, _, h3, _⟩ | ⟨ob, hf, h3, h4, h5⟩
        · exact absurd h3 ho
        · exact absurd h3 ho
        · simp only [Option.some.injEq] at h3
          subst h3
          exact ⟨ob, h4, rfl, rfl, rfl, .inr ⟨hf, h5, rfl⟩⟩
      · refine ⟨ob1, h1, rfl, rfl, rfl, .inl ⟨rfl, fun hx => ?_⟩⟩
        refine h2 (id, some { ob1 with lv := 0 }) ?_ rfl
        rw [← hl, hx.1]
        refine List.mem_append.2 (.inr ?_)
        simp only [if_true, freezeW]
        exact List.mem_filterMap.2 ⟨id, hx.2, by rw [h1]; rfl⟩
  have fpF : ∀ c, c ∈ fpA → ∀ id ob, H id = some ob → id ∉ own → c ∉ g.F id := fun c hc id ob h hid hF => by
    obtain ⟨i, o, h1, h2, _, h4⟩ := hfp c hc
    exact m.dj i id o ob (fun e => hid (e ▸ h1)) h2 h c h4 hF
  have foF : ∀ c, c ∈ foA → ∀ id ob, H id = some ob → id ∉ own → c ∉ g.F id := fun c hc id ob h hid hF => by
    rcases (hfo c hc).1 with h1 | h1
    · exact fpF c h1 id ob h hid hF
    · have := m.flt h c hF; omega
  have rdF : ∀ c id ob, RdS H g rd c → H id = some ob → id ∉ rd → c ∉ g.F id := fun c id ob ⟨i, o, h1, h2, h3⟩ h hid hF => m.dj i id o ob (fun e => hid (e ▸ h1)) h2 h c h3 hF
  have newS : ∀ id ob, H id = some ob → ¬ C id → ∀ c, c ∈ g.F id → ¬ g.S c → ¬ S1 c := fun id ob h hc c hF hn hs => by
    have ho : id ∉ own := fun h => hc (.inl h)
    rcases hs1 c hs with h1 | ⟨hf, h1 | h1 | h1⟩
    · exact hn h1
    · exact rdF c id ob h1 h (fun h => hc (.inr ⟨hf, h⟩)) hF
    · have := m.flt h c hF; omega
    · exact fpF c h1 id ob h ho hF
  have hs1' : ∀ c, S1 c → B.S c ∨ B.w.heap.size ≤ c ∨ c ∈ B.fp := fun c hs => by
    rcases hs1 c hs with h1 | ⟨_, ⟨i, o, _, h2, h3⟩ | h1 | h1⟩
    · exact m.s1 c h1
    · rcases m.new i o h2 c h3 with h | h
      · exact .inr (.inr h)
      · exact .inr (.inl h)
    · have := m.size; right; left; omega
    · obtain ⟨i, o, _, h2, _, h4⟩ := hfp c h1
      rcases m.new i o h2 c h4 with h | h
      · exact .inr (.inr h)
      · exact .inr (.inl h)
  have ch : Chg B H w g C (appW H l) w' g1 := by
    refine ⟨fun id hc => ⟨same id hc, rfl, if_neg fun h => hc (.inl h)⟩, hos, htape, hout, hsize, hbs, fun c hc => ?_, hS, hlt, hs1', fun id _ h => h, fun id ob1 hc hj h => ?_, fun id ob c hc h hlv hj => ?_, fun hst id ob hc h hlv c hF => ?_⟩
    · by_cases hin : c ∈ fpA
      · obtain ⟨i, o, h1, h2, h3, h4⟩ := hfp c hin
        exact .inr ⟨i, o, .inl h1, h2, h4, hfpS c hin⟩
      · exact .inl (hfm c hc hin)
    · rcases cases3 id ob1 h with ⟨_, ob, cs, jo, rfl, h1, h2, _⟩ | ⟨_, ob, h1, h2, h3, _⟩
      · exact ⟨ob, h1, .inr ⟨rfl, rfl, rfl⟩⟩
      · exact ⟨ob, h1, .inr ⟨h2.symm, h3.symm, rfl⟩⟩
    · exact newS id ob h hc c (m.own h hj) (m.mu id ob c h hlv hj)
    · exact newS id ob h hc c hF (m.ms hst id ob h hlv c hF)
  have p := ch.toPers m
  refine ⟨g1, rfl, rfl, ch.next m fun id ob1 hc h => ?_, p, fun id ob1 h c hF => ?_⟩
  · have other : ∀ c, (∀ id2 ob2, H id2 = some ob2 → id2 ∉ own → id2 ≠ id → c ∉ g.F id2) → (∀ id2, id2 ∈ own → id2 ≠ id → c ∉ G id2) → ∀ id2 ob2, id2 ≠ id → appW H l id2 = some ob2 → c ∉ g1.F id2 := fun c q1 q2 id2 ob2 hne h2 hF => by
      rcases cases3 id2 ob2 h2 with ⟨ho, _⟩ | ⟨ho, ob, h1, _⟩
      · have : c ∈ G id2 := by simpa only [g1, ho, if_true] using hF
        exact q2 id2 ho hne this
      · have : c ∈ g.F id2 := by simpa only [g1, ho, if_false] using hF
        exact q1 id2 ob h1 ho hne this
    rcases cases3 id ob1 h with ⟨ho, ob, cs, jo, rfl, h1, h2, h3⟩ | ⟨ho, ob, h1, h2, h3, h4, h5⟩
    · have hF1 : g1.F id = G id := if_pos ho
      refine ⟨jo, h2, by rw [hF1]; exact h3 _ _, by rw [hF1]; exact (he.nd id ho).1, fun _ => ⟨fun c hc => ?_, fun _ c hc => ?_⟩, fun c hc => ?_, fun id2 ob2 hne h2' c hc => ?_⟩
      · subst hc
        obtain ⟨arr, e, fr, fp, _, _, _, _, _, hG⟩ := h3 g.J H
        exact (hfo c ((he.nd id ho).2 c (by rw [hG]; exact List.mem_cons_self ..))).2
      · rw [hF1] at hc; exact (hfo c ((he.nd id ho).2 c hc)).2
      · rw [hF1] at hc
        rcases (hfo c ((he.nd id ho).2 c hc)).1 with h | h
        · obtain ⟨i, o, _, q2, _, q4⟩ := hfp c h
          exact m.new i o q2 c q4
        · have := m.size; right; omega
      · rw [hF1] at hc
        exact other c (fun i2 o2 q1 q2 _ => foF c ((he.nd id ho).2 c hc) i2 o2 q1 q2) (fun i2 q1 q2 => he.dj id i2 ho q1 (Ne.symm q2) c hc) id2 ob2 hne h2'
    · have hF1 : g1.F id = g.F id := if_neg ho
      have hfr : frz = true ∧ id ∈ rd := hc.resolve_left ho
      have hlv : ob1.lv = 0 := by
        rcases h5 with ⟨_, h5⟩ | ⟨_, _, h5⟩
        · exact absurd hfr h5
        · exact h5
      cases hj : g.J id with
      | none => exact absurd hj (m.hj id ob h1)
      | some jo =>
        have hO := m.ob id ob jo h1 hj
        have hO1 : OR w g.S g.J H ob1 jo (g.F id) := by
          cases jo with
          | none => exact ⟨by rw [h4]; exact hO.1, hO.2⟩
          | some blk =>
            obtain ⟨arr, e, fr, fp, q1, q2, q3, q4, q5, q6⟩ := hO
            have hcl : ob1.cells = ob.cells := h4
            exact ⟨arr, e, fr, fp, q1, q2, by rw [hcl]; exact q3, fun k hk => by
              have hk' : k < ob.cells.length := by rw [← hcl]; exact hk
              have := q4 k hk'
              simpa only [hcl] using this, fun k hk => q5 k (by rw [← hcl]; exact hk), by rw [hcl]; exact q6⟩
        refine ⟨jo, rfl, by rw [hF1]; exact hO1.mono p fun c hc => hfm c (m.flt h1 c hc) fun hin => fpF c hin id ob h1 ho hc, by rw [hF1]; exact m.nd id ob h1, fun h => by omega, fun c hc => m.new id ob h1 c (by rw [← hF1]; exact hc), fun id2 ob2 hne h2' c hc => ?_⟩
        rw [hF1] at hc
        exact other c (fun i2 o2 q1 _ q2 => m.dj id i2 ob o2 (Ne.symm q2) h1 q1 c hc) (fun i2 q1 _ hG => foF c ((he.nd i2 q1).2 c hG) id ob h1 ho hc) id2 ob2 hne h2'
  · rcases cases3 id ob1 h with ⟨ho, _⟩ | ⟨ho, ob, h1, _⟩
    · have : c ∈ G id := by simpa only [g1, ho, if_true] using hF
      exact .inr ((he.nd id ho).2 c this)
    · have : c ∈ g.F id := by simpa only [g1, ho, if_false] using hF
      exact .inl ⟨ob, h1, ho, this⟩

theorem backW_all : ∀ {as : List V} {ps : List AP} {os : List V} {l : List (Nat × Option Ob)}, as.length = ps.length → backW H as ps os = some l → ∀ i, i ∈ ps.flatMap (·.own) → ∃ x, x ∈ l ∧ x.1 = i
  | [], [], os, l, _, e, i, hi => by simp at hi
  | [], p :: ps, _, _, hl, _, _, _ => by simp at hl
  | a :: as, [], _, _, hl, _, _, _ => by simp at hl
  | a :: as, p :: ps, os, l, hl, e, i, hi => by
    simp only [backW] at e
    split at e
    · rename_i x y hx hy
      simp only [Option.some.injEq] at e
      subst e
      rw [List.flatMap_cons] at hi
      rcases List.mem_append.1 hi with hi | hi
      · exact ⟨(i, none), List.mem_append.2 (.inl (List.mem_append.2 (.inl (List.mem_map.2 ⟨i, hi, rfl⟩)))), rfl⟩
      · obtain ⟨x, hx, h⟩ := backW_all (by simpa using hl) hy i hi
        exact ⟨x, List.mem_append.2 (.inr hx), h⟩
    · cases e

/-- A call. -/
theorem call_sound (m : MR B H w g) (hb : ∀ id, b ≤ id → id < b + 64 → g.J id = none) {f : FuncId} {modes : List Nat} {call : List V → Option Res} {as : List V} {args : Array Value} {d : D}
    (hc : ∀ vals r, call vals = some r → CallOk P f vals r) (e : callD H b B.strict modes call as = some d) (hlen : args.size = as.length) (hv : ∀ k (hk : k < as.length), VR w g.S g.J H as[k] (args.getD k Go.undef)) :
    Goes P f args w fun z w' => ∃ g', Out B H w g b d z w' g' := by
  unfold callD at e
  split at e
  · cases e
  · rename_i ps hps
    have hpl := prepL_len hps
    split at e
    · rename_i hcond
      simp only [Bool.and_eq_true] at hcond
      obtain ⟨⟨⟨c1, c2⟩, c3⟩, c4⟩ := hcond
      have hno := nodup_of_nodupB c1
      have hor : ∀ i, i ∈ ps.flatMap (·.own) → i ∉ ps.flatMap (·.rd) := fun i hi => by
        have := List.all_eq_true.1 c2 i hi
        simpa using this
      split at e
      · cases e
      · rename_i r hr
        obtain ⟨htup, hok⟩ := hc _ r hr
        split at e
        · cases e
        · rename_i bw hbw
          let Sc : Nat → Prop := fun c => g.S c ∨ RdS H g (ps.flatMap (·.rd)) c
          obtain ⟨fps, hfps⟩ := prepL_sound m (S' := Sc) (fun c h => .inl h) (xs := fun k => args.getD k Go.undef) hps hv hno (fun c h => .inr h)
          have hvl : (ps.map (·.v)).length = ps.length := List.length_map _
          obtain ⟨n1, n2⟩ := nodup_flatMap_at hno
          have hnd : ((List.range (ps.map (·.v)).length).flatMap fps).Nodup := by
            rw [hvl]
            exact nodup_fm.2 ⟨fun k hk => (hfps k hk).2.1, fun i j hij hj c hc hc' => from_apart m (hfps i (by omega)).2.2 (hfps j hj).2.2 (n2 i j (by omega) hj (by omega)) c hc hc'⟩
          have hfrom : From H g (ps.flatMap (·.own)) ((List.range (ps.map (·.v)).length).flatMap fps) := fun c hc => by
            rw [hvl] at hc
            obtain ⟨k, hk, hc⟩ := mem_fm.1 hc
            obtain ⟨id, ob, q1, q2, q3, q4⟩ := (hfps k hk).2.2 c hc
            exact ⟨id, ob, List.mem_flatMap.2 ⟨_, List.getElem_mem hk, q1⟩, q2, q3, q4⟩
          have hfpS : ∀ c, c ∈ (List.range (ps.map (·.v)).length).flatMap fps → ¬ g.S c := fun c hc hs => by
            obtain ⟨id, ob, q1, q2, q3, q4⟩ := hfrom c hc
            rw [Bool.or_eq_true] at c3
            rcases c3 with c3 | c3
            · exact m.ms c3 id ob q2 q3 c q4 hs
            · exact m.mu id ob c q2 q3 (flat_own m c3 q1 q2 q4) hs
          refine (hok w Sc args fps (by rw [hvl, hpl]; exact hlen) (fun k hk => by
              have hk' : k < ps.length := by rw [hvl] at hk; exact hk
              have := (hfps k hk').1
              simpa using this) c4 hnd (fun c hc hs => by
              rcases hs with hs | ⟨i, o, h1, h2, h3⟩
              · exact hfpS c hc hs
              · obtain ⟨id, ob, q1, q2, q3, q4⟩ := hfrom c hc
                exact m.dj id i ob o (fun e => hor id q1 (e ▸ h1)) q2 h2 c q4 h3) (fun c hs => by
              rcases hs with hs | ⟨i, o, h1, h2, h3⟩
              · exact m.lt c hs
              · exact m.flt h2 c h3)).mono ?_
          rintro z w' ⟨S', fp, fo, po⟩
          let frz : Bool := !(r.fresh && r.outs.all (treeN depth))
          let S1 : Nat → Prop := if frz then S' else g.S
          have hnd2 := po.nd
          rw [List.nodup_append] at hnd2
          obtain ⟨nd1, nd2, nd3⟩ := hnd2
          -- what comes back, under what is only read now
          have houts : ∀ k (hk : k < r.outs.length), OutA w' S1 r.outs[k] (args.getD k Go.undef) (fo k) := fun k hk => by
            cases hf : r.fresh && r.outs.all (treeN depth) with
            | false =>
              have : S1 = S' := by simp only [S1, frz, hf, Bool.not_false, if_true]
              rw [this]; exact po.outs k hk
            | true =>
              have ht : r.outs.all (treeN depth) = true := by simp only [Bool.and_eq_true] at hf; exact hf.2
              exact (po.outs k hk).strict (List.all_eq_true.1 ht _ (List.getElem_mem hk))
          obtain ⟨G, he⟩ := backW_sound m (w' := w') (S1 := S1) (xs := fun k => args.getD k Go.undef) hps hbw hv houts nd2 hno
          have hS1 : ∀ c, S1 c → g.S c ∨ (frz = true ∧ (RdS H g (ps.flatMap (·.rd)) c ∨ w.heap.size ≤ c ∨ c ∈ (List.range (ps.map (·.v)).length).flatMap fps)) := fun c hs => by
            cases hf : frz with
            | false =>
              have : S1 = g.S := by simp only [S1, hf]; rfl
              rw [this] at hs; exact .inl hs
            | true =>
              have : S1 = S' := by simp only [S1, hf, if_true]
              rw [this] at hs
              rcases po.hs1 c hs with (h | h) | h | h
              · exact .inl h
              · exact .inr ⟨rfl, .inl h⟩
              · exact .inr ⟨rfl, .inr (.inl h)⟩
              · exact .inr ⟨rfl, .inr (.inr h)⟩
          have hSS : ∀ c, g.S c → S1 c := fun c hs => by
            cases hf : frz with
            | false =>
              have : S1 = g.S := by simp only [S1, hf]; rfl
              rw [this]; exact hs
            | true =>
              have : S1 = S' := by simp only [S1, hf, if_true]
              rw [this]; exact po.hS c (.inl hs)
          have hlt1 : ∀ c, S1 c → c < w'.heap.size := fun c hs => by
            cases hf : frz with
            | false =>
              have : S1 = g.S := by simp only [S1, hf]; rfl
              rw [this] at hs
              exact Nat.lt_of_lt_of_le (m.lt c hs) po.size
            | true =>
              have : S1 = S' := by simp only [S1, hf, if_true]
              rw [this] at hs; exact po.hlt c hs
          have notS1 : ∀ c, (c ∈ fp ∨ ∃ k, k < r.outs.length ∧ c ∈ fo k) → ¬ S1 c := fun c hc hs => by
            cases hf : frz with
            | false =>
              have : S1 = g.S := by simp only [S1, hf]; rfl
              rw [this] at hs
              rcases po.new c hc with h | h
              · exact hfpS c h hs
              · have := m.lt c hs; omega
            | true =>
              have : S1 = S' := by simp only [S1, hf, if_true]
              rw [this] at hs
              exact po.oS (by
                have hf' : (!(r.fresh && r.outs.all (treeN depth))) = true := hf
                rwa [Bool.not_eq_true'] at hf') c hc hs
          obtain ⟨g1, s1, j1, m1, p1, f1⟩ := call_mem m (rd := ps.flatMap (·.rd)) frz po.os po.tape po.output po.size po.fm po.bs hSS hlt1 hS1 hfrom hfpS hor he (backW_all hpl.symm hbw) (fun c hc => by
            obtain ⟨k, hk, hc⟩ := mem_fm.1 hc
            exact ⟨po.new c (.inr ⟨k, hk, hc⟩), notS1 c (.inr ⟨k, hk, hc⟩)⟩)
          split at e
          · rename_i hfresh
            split at e
            · rename_i hw
              simp only [Option.some.injEq] at e
              subst e
              have hz : TR w' S1 r.v z fp := by
                rcases po.val with h | h
                · cases ht : r.outs.all (treeN depth) with
                  | true => exact (h.2.2 ht).mono (fun _ h => h.elim) (fun _ _ => rfl) fun _ _ => rfl
                  | false =>
                    have : S1 = S' := by simp only [S1, frz, hfresh, ht, Bool.and_false, Bool.not_false, if_true]
                    rw [this]; exact h.2.1
                · rw [hfresh] at h; cases h.1
              have hfrzE : (if frz = true then freezeW H (ps.flatMap (·.rd)) else []) = (if r.outs.all (treeN depth) = true then [] else freezeW H (ps.flatMap (·.rd))) := by
                simp only [frz, hfresh, Bool.true_and]
                cases r.outs.all (treeN depth) <;> simp
              rw [hfrzE] at m1 p1 f1
              obtain ⟨g2, t, v2⟩ := adopt_sound m1 (x := b) (fun id l1 l2 => by rw [j1]; exact hb id l1 l2) hw (fun vs hvs k hk us hu => by
                  have := List.all_eq_true.1 (htup vs hvs) _ (List.getElem_mem hk)
                  rw [hu] at this; cases this)
                (by rw [s1]; exact hz) nd1 (fun c hc => by
                  refine ⟨?_, fun id ob h hF => ?_, by rw [s1]; exact notS1 c (.inl hc)⟩
                  · rcases po.new c (.inl hc) with h | h
                    · obtain ⟨i, o, _, q2, _, q4⟩ := hfrom c h
                      exact m.new i o q2 c q4
                    · have := m.size; right; omega
                  · rcases f1 id ob h c hF with ⟨ob0, h0, hno, hF0⟩ | h0
                    · rcases po.new c (.inl hc) with h | h
                      · obtain ⟨i, o, q1, q2, _, q4⟩ := hfrom c h
                        exact m.dj i id o ob0 (fun e => hno (e ▸ q1)) q2 h0 c q4 hF0
                      · have := m.flt h0 c hF0; omega
                    · exact nd3 c hc c h0 rfl)
              refine ⟨g2, ?_, ?_, ?_, fun id hid => ?_⟩
              · show VR w' g2.S g2.J (appW H (_ ++ (adopt b r.v).2)) _ _
                rw [appW_append]; exact v2
              · show MR B (appW H (_ ++ (adopt b r.v).2)) w' g2
                rw [appW_append]; exact t.m
              · show Pers w g.S g.J H w' g2.S g2.J (appW H (_ ++ (adopt b r.v).2))
                rw [appW_append]
                have p1' : Pers w g.S g.J H w' g1.S g1.J (appW H (bw ++ (if r.outs.all (treeN depth) = true then [] else freezeW H (ps.flatMap (·.rd))))) := by rw [s1, j1]; exact p1
                exact p1'.trans t.p
              · by_cases e : b ≤ id ∧ id < b + 64
                · exact .inr e
                · rw [(t.out id e).1, j1] at hid; exact .inl hid
            · cases e
          · rename_i hfresh
            have hfresh' : r.fresh = false := by simpa using hfresh
            simp only [Option.some.injEq] at e
            subst e
            have hfz : frz = true := by simp [frz, hfresh']
            have hz : PR w' S' r.v z := by
              rcases po.val with h | h
              · rw [hfresh'] at h; cases h.1
              · exact h.2.1
            have hSe : S1 = S' := by simp only [S1, hfz, if_true]
            rw [hfz] at m1 p1
            simp only [if_true] at m1 p1
            refine ⟨g1, .pure ?_, m1, ?_, fun id hid => ?_⟩
            · rw [s1, hSe]; exact hz
            · show Pers w g.S g.J H w' g1.S g1.J _
              rw [s1, j1]; exact p1
            · rw [j1] at hid; exact .inl hid
    · cases e
end

end Go.Proofs.Ytacfkfdnncgjcaa.Ev
end
