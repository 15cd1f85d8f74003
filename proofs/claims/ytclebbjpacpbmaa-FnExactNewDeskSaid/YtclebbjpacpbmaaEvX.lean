/- The abstract interpreter: what an operation's outcome hangs on. Conditions: none. -/
import Derived.Test.YtclebbjpacpbmaaEvR
set_option linter.unusedVariables false
set_option linter.unusedSimpArgs false
namespace Go.Proofs.Ytclebbjpacpbmaa.Ev
open Go

def Ag (H H' : Nat → Option Ob) (ids : List Nat) : Prop := ∀ id, id ∈ ids → H id = H' id
theorem Ag.l {H H' : Nat → Option Ob} {a b : List Nat} (h : Ag H H' (a ++ b)) : Ag H H' a := fun id hi => h id (List.mem_append.2 (.inl hi))
theorem Ag.r {H H' : Nat → Option Ob} {a b : List Nat} (h : Ag H H' (a ++ b)) : Ag H H' b := fun id hi => h id (List.mem_append.2 (.inr hi))
theorem Ag.hd {H H' : Nat → Option Ob} {a : Nat} {b : List Nat} (h : Ag H H' (a :: b)) : H a = H' a := h a (List.mem_cons_self ..)
theorem Ag.tl {H H' : Nat → Option Ob} {a : Nat} {b : List Nat} (h : Ag H H' (a :: b)) : Ag H H' b := fun id hi => h id (List.mem_cons_of_mem _ hi)
theorem getO_ag {H H' : Nat → Option Ob} {id ver : Nat} (h : H id = H' id) : getO H' id ver = getO H id ver := by unfold getO; rw [h]

section
variable {H H' : Nat → Option Ob}

theorem mapM_ag {f f' : V → Option V} {g g' : V → List Nat} (hf : ∀ v u, f v = some u → Ag H H' (g v) → f' v = some u ∧ g' v = g v) : ∀ {l : List V} {us : List V}, l.mapM f = some us → Ag H H' (l.flatMap g) → l.mapM f' = some us ∧ l.flatMap g' = l.flatMap g
  | [], us, h, _ => ⟨h, rfl⟩
  | a :: l, us, h, ag => by
    rw [List.mapM_cons] at h
    obtain ⟨u, h1, h2⟩ := Option.bind_eq_some_iff.1 h
    obtain ⟨us', h3, h4⟩ := Option.bind_eq_some_iff.1 h2
    rw [List.flatMap_cons] at ag
    obtain ⟨a1, a2⟩ := hf a u h1 ag.l
    obtain ⟨b1, b2⟩ := mapM_ag hf h3 ag.r
    refine ⟨?_, by rw [List.flatMap_cons, List.flatMap_cons, a2, b2]⟩
    rw [List.mapM_cons, a1, b1]
    exact h4

theorem purN_ag : ∀ (k : Nat) (v u : V), purN H k v = some u → Ag H H' (idsN H k v) → purN H' k v = some u ∧ idsN H' k v = idsN H k v
  | 0, v, u, h, _ => by cases v <;> first | exact ⟨h, rfl⟩ | simp [purN] at h
  | k + 1, v, u, h, ag => by
    have ih := fun v u => purN_ag k v u
    cases v <;> try exact ⟨h, rfl⟩
    case uniq sz n cs =>
      simp only [purN, idsN] at h ag ⊢
      obtain ⟨us, h1, h2⟩ := Option.map_eq_some_iff.1 h
      obtain ⟨a1, a2⟩ := mapM_ag ih h1 ag
      rw [a1, a2]; exact ⟨congrArg some h2, rfl⟩
    case sl id ver off len =>
      simp only [purN, idsN] at h ag ⊢
      cases hg : getO H id ver with
      | none => simp [hg] at h
      | some ob =>
        simp only [hg] at h ag
        rw [getO_ag ag.hd, hg]
        simp only
        split at h
        · rename_i hc
          rw [if_pos hc]
          obtain ⟨us, h1, h2⟩ := Option.map_eq_some_iff.1 h
          obtain ⟨a1, a2⟩ := mapM_ag ih h1 ag.tl
          rw [a1, a2]; exact ⟨congrArg some h2, rfl⟩
        · cases h
    case ptr id ver off =>
      simp only [purN, idsN] at h ag ⊢
      cases hg : getO H id ver with
      | none => simp [hg] at h
      | some ob =>
        simp only [hg] at h ag
        rw [getO_ag ag.hd, hg]
        simp only
        obtain ⟨us, h1, h2⟩ := Option.map_eq_some_iff.1 h
        obtain ⟨a1, a2⟩ := mapM_ag ih h1 ag.tl
        rw [a1, a2]; exact ⟨congrArg some h2, rfl⟩
    case func f fi ca =>
      simp only [purN, idsN] at h ag ⊢
      cases h1 : fi.mapM (purN H k) with
      | none => simp [h1] at h
      | some fi' =>
        cases h2 : ca.mapM (purN H k) with
        | none => simp [h1, h2] at h
        | some ca' =>
          obtain ⟨a1, a2⟩ := mapM_ag ih h1 ag.l
          obtain ⟨b1, b2⟩ := mapM_ag ih h2 ag.r
          simp only [h1, h2] at h
          rw [a1, a2, b1, b2]; exact ⟨h, rfl⟩
    case agg cs =>
      simp only [purN, idsN] at h ag ⊢
      obtain ⟨us, h1, h2⟩ := Option.map_eq_some_iff.1 h
      obtain ⟨a1, a2⟩ := mapM_ag ih h1 ag
      rw [a1, a2]; exact ⟨congrArg some h2, rfl⟩
    case tup cs =>
      simp only [purN, idsN] at h ag ⊢
      obtain ⟨us, h1, h2⟩ := Option.map_eq_some_iff.1 h
      obtain ⟨a1, a2⟩ := mapM_ag ih h1 ag
      rw [a1, a2]; exact ⟨congrArg some h2, rfl⟩
    case iface t v =>
      simp only [purN, idsN] at h ag ⊢
      obtain ⟨us, h1, h2⟩ := Option.map_eq_some_iff.1 h
      obtain ⟨a1, a2⟩ := ih v us h1 ag
      rw [a1, a2]; exact ⟨congrArg some h2, rfl⟩

theorem expN_ag : ∀ (k : Nat) (v u : V), expN H k v = some u → Ag H H' (eidN H k v) → expN H' k v = some u ∧ eidN H' k v = eidN H k v
  | 0, v, u, h, _ => by cases v <;> exact ⟨h, rfl⟩
  | k + 1, v, u, h, ag => by
    have ih := fun v u => expN_ag k v u
    cases v <;> try exact ⟨h, rfl⟩
    case sl id ver off len =>
      simp only [expN, eidN] at h ag ⊢
      cases hg : getO H id ver with
      | none => simp [hg] at h
      | some ob =>
        simp only [hg] at h ag
        rw [getO_ag ag.hd, hg]
        simp only
        split at h
        · rename_i hc
          rw [if_pos hc]
          obtain ⟨us, h1, h2⟩ := Option.map_eq_some_iff.1 h
          obtain ⟨a1, a2⟩ := mapM_ag ih h1 ag.tl
          rw [a1, a2]; exact ⟨congrArg some h2, rfl⟩
        · cases h
    case agg cs =>
      simp only [expN, eidN] at h ag ⊢
      obtain ⟨us, h1, h2⟩ := Option.map_eq_some_iff.1 h
      obtain ⟨a1, a2⟩ := mapM_ag ih h1 ag
      rw [a1, a2]; exact ⟨congrArg some h2, rfl⟩
    case tup cs =>
      simp only [expN, eidN] at h ag ⊢
      obtain ⟨us, h1, h2⟩ := Option.map_eq_some_iff.1 h
      obtain ⟨a1, a2⟩ := mapM_ag ih h1 ag
      rw [a1, a2]; exact ⟨congrArg some h2, rfl⟩

theorem ownX_ag {v u : V} (h : ownX H v = some u) (ag : Ag H H' (ownI H v)) : ownX H' v = some u ∧ ownI H' v = ownI H v := by
  cases v <;> simp only [ownX, reduceCtorEq] at h
  case sl id ver off len =>
    cases hg : getO H id ver with
    | none => simp [hg] at h
    | some ob =>
      simp only [hg] at h
      split at h
      · rename_i hc
        have hid : id ∈ eidN H depth (.sl id ver off len) := by
          simp only [depth, eidN, hg]; exact List.mem_cons_self ..
        obtain ⟨a1, a2⟩ := expN_ag depth _ u h ag
        refine ⟨?_, a2⟩
        simp only [ownX]
        rw [getO_ag (ag id hid), hg]
        simp only
        rw [if_pos hc, a1]
      · cases h
theorem ownX_id {id ver off len : Nat} {u : V} (h : ownX H (.sl id ver off len) = some u) : id ∈ ownI H (.sl id ver off len) := by
  simp only [ownX] at h
  cases hg : getO H id ver with
  | none => simp [hg] at h
  | some ob => simp only [ownI, depth, eidN, hg]; exact List.mem_cons_self ..

theorem share_ag {a : V} {p : AP} (h : (purN H depth a).map (fun v => ({ v, rd := idsN H depth a } : AP)) = some p) (ag : Ag H H' (p.own ++ p.rd)) :
    (purN H' depth a).map (fun v => ({ v, rd := idsN H' depth a } : AP)) = some p := by
  obtain ⟨u, h1, rfl⟩ := Option.map_eq_some_iff.1 h
  obtain ⟨a1, a2⟩ := purN_ag depth a u h1 ag.r
  rw [a1, a2]; rfl

theorem prepA_ag {m : Nat} (hm : m ≠ 2) {a : V} {p : AP} (h : prepA H m a = some p) (ag : Ag H H' (p.own ++ p.rd)) : prepA H' m a = some p := by
  by_cases h1 : m = 1
  · subst h1
    by_cases ha : ∃ cs, a = .agg cs
    · obtain ⟨cs, rfl⟩ := ha
      simp only [prepA] at h ⊢
      cases hc : cs.mapM (fun c => if isRefV c = true then ownX H c else expN H depth c) with
      | none => simp [hc] at h
      | some cs' =>
        simp only [hc, Option.some.injEq] at h
        subst h
        obtain ⟨a1, a2⟩ := mapM_ag (H := H) (H' := H') (f := fun c => if isRefV c = true then ownX H c else expN H depth c) (f' := fun c => if isRefV c = true then ownX H' c else expN H' depth c) (g := fun c => if isRefV c = true then ownI H c else eidN H depth c) (g' := fun c => if isRefV c = true then ownI H' c else eidN H' depth c) (fun v u hv hag => by
          by_cases hr : isRefV v = true
          · simp only [hr, if_true] at hv hag ⊢
            exact ownX_ag hv hag
          · simp only [hr, if_false, Bool.false_eq_true] at hv hag ⊢
            exact expN_ag depth v u hv hag) hc ag.l
        rw [a1, a2]
    · have e : ∀ H, prepA H 1 a = if isRefV a then (ownX H a).map fun v => { v, own := ownI H a, back := true } else (purN H depth a).map fun v => { v, rd := idsN H depth a } := fun H => by
        cases a <;> first | rfl | exact absurd ⟨_, rfl⟩ ha
      rw [e] at h ⊢
      split at h
      · rename_i hr
        rw [if_pos hr]
        obtain ⟨u, h1, rfl⟩ := Option.map_eq_some_iff.1 h
        obtain ⟨a1, a2⟩ := ownX_ag h1 ag.l
        rw [a1, a2]; rfl
      · rename_i hr
        rw [if_neg hr]
        exact share_ag h ag
  · have e : ∀ H, prepA H m a = (purN H depth a).map fun v => { v, rd := idsN H depth a } := fun H => by
      unfold prepA
      match m, hm, h1 with
      | 0, _, _ => rfl
      | 1, _, h => exact absurd rfl h
      | 2, h, _ => exact absurd rfl h
      | n + 3, _, _ => rfl
    rw [e] at h ⊢
    exact share_ag h ag

theorem prepL_ag : ∀ {ms : List Nat} {as : List V} {ps : List AP}, (∀ m, m ∈ ms → m ≠ 2) → prepL H ms as = some ps → Ag H H' (ps.flatMap (·.own) ++ ps.flatMap (·.rd)) → prepL H' ms as = some ps
  | ms, [], ps, _, h, _ => h
  | ms, a :: as, ps, hm, h, ag => by
    simp only [prepL] at h ⊢
    cases h1 : prepA H (ms.headD 0) a with
    | none =>
      rw [h1] at h
      have h' : (none : Option (List AP)) = some ps := h
      cases h'
    | some p =>
      cases h2 : prepL H ms.tail as with
      | none => simp [h1, h2] at h
      | some qs =>
        simp only [h1, h2, Option.some.injEq] at h
        subst h
        have hm1 : ms.headD 0 ≠ 2 := by
          cases ms with
          | nil => simp
          | cons m ms => exact hm m (List.mem_cons_self ..)
        have ag1 : Ag H H' (p.own ++ p.rd) := fun id hi => ag id (by
          simp only [List.flatMap_cons, List.mem_append] at hi ⊢
          rcases hi with hi | hi
          · exact .inl (.inl hi)
          · exact .inr (.inl hi))
        have ag2 : Ag H H' (qs.flatMap (·.own) ++ qs.flatMap (·.rd)) := fun id hi => ag id (by
          simp only [List.flatMap_cons, List.mem_append] at hi ⊢
          rcases hi with hi | hi
          · exact .inl (.inr hi)
          · exact .inr (.inr hi))
        rw [prepA_ag hm1 h1 ag1, prepL_ag (fun m hmm => hm m (List.mem_of_mem_tail hmm)) h2 ag2]

theorem backO_ag {a o : V} (h : ∀ id ver off len, a = .sl id ver off len → H id = H' id) : backO H' a o = backO H a o := by
  unfold backO
  split
  · rw [h _ _ _ _ rfl]
  · rfl
  · rfl
theorem backL_ag : ∀ {cs os : List V}, (∀ id ver off len, V.sl id ver off len ∈ cs → H id = H' id) → backL H' cs os = backL H cs os
  | [], [], _ => rfl
  | [], _ :: _, _ => rfl
  | _ :: _, [], _ => rfl
  | c :: cs, o :: os, h => by
    simp only [backL]
    rw [backO_ag (H := H) (H' := H') fun id ver off len e => h id ver off len (e ▸ List.mem_cons_self ..), backL_ag fun id ver off len hc => h id ver off len (List.mem_cons_of_mem _ hc)]

def bkX (H : Nat → Option Ob) (a o : V) : Option (List (Nat × Option Ob)) :=
  match a, o with
  | .agg cs, .agg os => backL H cs os
  | a, o => backO H a o
theorem backX_ag {a o : V} (r1 : ∀ id ver off len, a = .sl id ver off len → H id = H' id) (r2 : ∀ cs, a = .agg cs → ∀ id ver off len, V.sl id ver off len ∈ cs → H id = H' id) : bkX H' a o = bkX H a o := by
  have h1 := backO_ag (H := H) (H' := H') (o := o) r1
  cases a <;> try exact h1
  case agg cs =>
    cases o <;> try exact h1
    case agg os => exact backL_ag fun id ver off len hc => r2 cs rfl id ver off len hc

theorem prepA_refs {m : Nat} (hm : m ≠ 2) {a : V} {p : AP} (h : prepA H m a = some p) (hb : p.back = true) :
    (∀ id ver off len, a = .sl id ver off len → id ∈ p.own) ∧ (∀ cs, a = .agg cs → ∀ id ver off len, V.sl id ver off len ∈ cs → id ∈ p.own) := by
  by_cases h1 : m = 1
  · subst h1
    refine ⟨?_, ?_⟩
    · rintro id ver off len rfl
      have e : prepA H 1 (.sl id ver off len) = (ownX H (.sl id ver off len)).map fun v => { v, own := ownI H (.sl id ver off len), back := true } := rfl
      rw [e] at h
      obtain ⟨u, hu, rfl⟩ := Option.map_eq_some_iff.1 h
      exact ownX_id hu
    · rintro cs rfl id ver off len hc
      simp only [prepA] at h
      cases hcs : cs.mapM (fun c => if isRefV c = true then ownX H c else expN H depth c) with
      | none => simp [hcs] at h
      | some cs' =>
        simp only [hcs, Option.some.injEq] at h
        subst h
        refine List.mem_flatMap.2 ⟨_, hc, ?_⟩
        have : ∃ u, ownX H (.sl id ver off len) = some u := by
          have key : ∀ {l us : List V}, l.mapM (fun c => if isRefV c = true then ownX H c else expN H depth c) = some us → V.sl id ver off len ∈ l → ∃ u, ownX H (.sl id ver off len) = some u := by
            intro l
            induction l with
            | nil => intro us _ hx; cases hx
            | cons c l ih =>
              intro us hm hx
              rw [List.mapM_cons] at hm
              obtain ⟨u, h1, h2⟩ := Option.bind_eq_some_iff.1 hm
              obtain ⟨us', h3, _⟩ := Option.bind_eq_some_iff.1 h2
              rcases List.mem_cons.1 hx with rfl | hx
              · exact ⟨u, h1⟩
              · exact ih h3 hx
          exact key hcs hc
        obtain ⟨u, hu⟩ := this
        exact ownX_id hu
  · have e : prepA H m a = (purN H depth a).map fun v => { v, rd := idsN H depth a } := by
      unfold prepA
      match m, hm, h1 with
      | 0, _, _ => rfl
      | 1, _, h => exact absurd rfl h
      | 2, h, _ => exact absurd rfl h
      | n + 3, _, _ => rfl
    rw [e] at h
    obtain ⟨u, _, rfl⟩ := Option.map_eq_some_iff.1 h
    cases hb

theorem backW_ag : ∀ {ms : List Nat} {as : List V} {ps : List AP} {os : List V}, (∀ m, m ∈ ms → m ≠ 2) → prepL H ms as = some ps → Ag H H' (ps.flatMap (·.own)) → backW H' as ps os = backW H as ps os
  | ms, [], ps, os, _, h, _ => by
    simp only [prepL, Option.some.injEq] at h
    subst h; rfl
  | ms, a :: as, ps, os, hm, h, ag => by
    simp only [prepL] at h
    cases h1 : prepA H (ms.headD 0) a with
    | none =>
      rw [h1] at h
      have h' : (none : Option (List AP)) = some ps := h
      cases h'
    | some p =>
      cases h2 : prepL H ms.tail as with
      | none => simp [h1, h2] at h
      | some qs =>
        simp only [h1, h2, Option.some.injEq] at h
        subst h
        have hm1 : ms.headD 0 ≠ 2 := by
          cases ms with
          | nil => simp
          | cons m ms => exact hm m (List.mem_cons_self ..)
        rw [List.flatMap_cons] at ag
        have ih := backW_ag (os := os.tail) (fun m hmm => hm m (List.mem_of_mem_tail hmm)) h2 ag.r
        simp only [backW]
        rw [ih]
        cases hb : p.back with
        | false => rfl
        | true =>
          obtain ⟨r1, r2⟩ := prepA_refs hm1 h1 hb
          simp only [if_true]
          have here := backX_ag (H := H) (H' := H') (a := a) (o := os.headD .undef) (fun id ver off len e => ag.l id (r1 id ver off len e)) (fun cs e id ver off len hc => ag.l id (r2 cs e id ver off len hc))
          have step : ∀ z z' : Option (List (Nat × Option Ob)), z = z' → (match z, backW H as qs os.tail with
              | some x, some y => some ((p.own.map fun i => (i, none)) ++ x ++ y)
              | _, _ => none) = (match z', backW H as qs os.tail with
              | some x, some y => some ((p.own.map fun i => (i, none)) ++ x ++ y)
              | _, _ => none) := by rintro _ _ rfl; rfl
          exact step _ _ here

theorem flatO_ag {ids : List Nat} (ag : Ag H H' ids) : flatO H' ids = flatO H ids := by
  unfold flatO
  induction ids with
  | nil => rfl
  | cons i ids ih => rw [List.all_cons, List.all_cons, ag.hd, ih ag.tl]
theorem freezeW_ag {ids : List Nat} (ag : Ag H H' ids) : freezeW H' ids = freezeW H ids := by
  unfold freezeW
  induction ids with
  | nil => rfl
  | cons i ids ih => rw [List.filterMap_cons, List.filterMap_cons, ag.hd, ih ag.tl]

theorem callD_ag {b : Nat} {s : Bool} {ms : List Nat} {call : List V → Option Res} {args : List V} {d : D} (hm : ∀ m, m ∈ ms → m ≠ 2) (h : callD H b s ms call args = some d) (ag : Ag H H' d.rd) : callD H' b s ms call args = some d := by
  unfold callD at h ⊢
  cases hp : prepL H ms args with
  | none => simp [hp] at h
  | some ps =>
    simp only [hp] at h
    split at h
    · rename_i hc
      have hrd : d.rd = ps.flatMap (·.own) ++ ps.flatMap (·.rd) := by
        split at h
        · cases h
        · split at h
          · cases h
          · split at h
            · split at h
              · injection h with h; subst h; rfl
              · cases h
            · injection h with h; subst h; rfl
      rw [hrd] at ag
      rw [prepL_ag hm hp ag]
      simp only
      rw [flatO_ag ag.l, if_pos hc, freezeW_ag ag.r]
      cases hr : call (ps.map (·.v)) with
      | none => simp [hr] at h
      | some r =>
        simp only [hr] at h ⊢
        rw [backW_ag hm hp ag.l]
        exact h
    · cases h

theorem loadD_ag {P : Program} {s : Bool} {b : Nat} {t : TypeId} {a : V} {d : D} (h : loadD P s H b t a = some d) (ag : Ag H H' d.rd) : loadD P s H' b t a = some d := by
  unfold loadD at h ⊢
  cases hl : ldT P t with
  | none => simp [hl] at h
  | some x =>
    obtain ⟨agg, n⟩ := x
    simp only [hl] at h ⊢
    cases a <;> try exact h
    case ptr id ver off =>
      simp only at h ⊢
      cases hg : getO H id ver with
      | none => simp [hg] at h
      | some ob =>
        have hid : id ∈ d.rd := by
          simp only [hg] at h
          split at h
          · split at h
            · split at h
              · split at h
                · injection h with h; subst h; simp
                · cases h
              · obtain ⟨u, _, rfl⟩ := Option.map_eq_some_iff.1 h; simp
            · cases h
          · obtain ⟨c, _, h⟩ := Option.bind_eq_some_iff.1 h
            split at h
            · split at h
              · injection h with h; subst h; simp
              · cases h
            · obtain ⟨u, _, rfl⟩ := Option.map_eq_some_iff.1 h; simp
        rw [getO_ag (ag id hid)]
        exact h
end

theorem segV_ag {sz : Nat} {x : V} {cs : List V} {ids : List Nat} {H H' : Nat → Option Ob} (h : segV H sz x = some (cs, ids)) (ag : Ag H H' ids) : segV H' sz x = some (cs, ids) := by
  cases x <;> try exact h
  case sl id ver off len =>
    simp only [segV] at h ⊢
    cases hg : getO H id ver with
    | none => simp [hg] at h
    | some ob =>
      simp only [hg] at h
      split at h
      · rename_i hc
        simp only [Option.some.injEq, Prod.mk.injEq] at h
        obtain ⟨rfl, rfl⟩ := h
        rw [getO_ag ag.hd, hg]
        simp only
        rw [if_pos hc]
      · cases h
def newsA (P : Program) (H : Nat → Option Ob) (t t2 : TypeId) (sz : Nat) (x : V) : Option (List V × Nat × List Nat) := match x with
  | .str y => if sz = 1 ∧ isStrT (P.underlying t2) = true then some (bytesV y, y.size, []) else none
  | x => match segV H sz x, lenV x with
    | some (cs, ids), some n => if t2 = t then some (cs, n, ids) else none
    | _, _ => none
def appR (H : Nat → Option Ob) (b sz bytes : Nat) (s : V) (cs : List V) (n : Nat) (ids : List Nat) : Option D :=
  if (goneOf cs ids).all (fun i => decide (1 ≤ lvO H i)) = false then none else
  match s with
  | .nils => if n * bytes ≤ 140737488355328 then
      some { v := .sl b 0 0 n, rd := ids, wr := ((goneOf cs ids).map fun i => (i, none)) ++ [(b, some ⟨0, 2, sz, cs⟩)] } else none
  | .sl id ver off len => match getO H id ver with
    | some ob =>
      if off = 0 ∧ ob.lv = 2 ∧ ob.sz = sz ∧ ob.cells.length = len * sz ∧ (len + n) * bytes ≤ 140737488355328 ∧ ids.contains id = false then
        some { v := .sl id (ver + 1) 0 (len + n), rd := id :: ids, wr := ((goneOf cs ids).map fun i => (i, none)) ++ [(id, some { ob with ver := ver + 1, cells := ob.cells ++ cs })] }
      else none
    | none => none
  | _ => none
theorem appendD_eq {P : Program} {H : Nat → Option Ob} {b : Nat} {t t2 : TypeId} {s x : V} : appendD P H b t t2 s x = match apT P t with
    | none => none
    | some (_, sz, bytes) => match newsA P H t t2 sz x with
      | none => none
      | some (cs, n, ids) => appR H b sz bytes s cs n ids := rfl
theorem goneOf_sub {cs : List V} {ids : List Nat} {i : Nat} (h : i ∈ goneOf cs ids) : i ∈ ids := by
  unfold goneOf at h
  split at h
  · exact h
  · cases h
theorem lvO_ag {H H' : Nat → Option Ob} : ∀ {l : List Nat}, (∀ i, i ∈ l → H i = H' i) → l.all (fun i => decide (1 ≤ lvO H' i)) = l.all (fun i => decide (1 ≤ lvO H i))
  | [], _ => rfl
  | i :: l, h => by
    rw [List.all_cons, List.all_cons, lvO_ag fun j hj => h j (List.mem_cons_of_mem _ hj)]
    unfold lvO
    rw [h i (List.mem_cons_self ..)]
theorem appR_ag {H H' : Nat → Option Ob} {b sz bytes : Nat} {s : V} {cs : List V} {n : Nat} {ids : List Nat} {d : D} (h : appR H b sz bytes s cs n ids = some d) :
    (∀ i, i ∈ ids → i ∈ d.rd) ∧ (Ag H H' d.rd → appR H' b sz bytes s cs n ids = some d) := by
  unfold appR at h ⊢
  split at h
  · cases h
  · rename_i hg
    have sub : ∀ i, i ∈ ids → i ∈ d.rd := by
      split at h
      · split at h
        · injection h with h; subst h; exact fun i hi => hi
        · cases h
      · split at h
        · split at h
          · injection h with h; subst h; exact fun i hi => List.mem_cons_of_mem _ hi
          · cases h
        · cases h
      · cases h
    refine ⟨sub, fun ag => ?_⟩
    rw [lvO_ag fun i hi => ag i (sub i (goneOf_sub hi)), if_neg hg]
    split at h
    · exact h
    · rename_i id ver off len
      cases hgo : getO H id ver with
      | none => simp [hgo] at h
      | some ob =>
        simp only [hgo] at h
        split at h
        · rename_i hc
          have hid : id ∈ d.rd := by injection h with h; subst h; exact List.mem_cons_self ..
          simp only [getO_ag (ag id hid), hgo]
          rw [if_pos hc]
          exact h
        · cases h
    · cases h
theorem newsA_ag {P : Program} {H H' : Nat → Option Ob} {t t2 : TypeId} {sz : Nat} {x : V} {cs : List V} {n : Nat} {ids : List Nat} (h : newsA P H t t2 sz x = some (cs, n, ids)) (ag : ∀ i, i ∈ ids → H i = H' i) : newsA P H' t t2 sz x = some (cs, n, ids) := by
  unfold newsA at h ⊢
  split at h
  · exact h
  · cases hs : segV H sz x with
    | none => simp [hs] at h
    | some y =>
      obtain ⟨cs', ids'⟩ := y
      cases hl : lenV x with
      | none => simp [hs, hl] at h
      | some m =>
        simp only [hs, hl] at h
        split at h
        · rename_i ht
          simp only [Option.some.injEq, Prod.mk.injEq] at h
          obtain ⟨rfl, rfl, rfl⟩ := h
          rw [segV_ag hs fun i hi => ag i hi]
          simp only
          rw [if_pos ht]
        · cases h
theorem appendD_ag {P : Program} {H H' : Nat → Option Ob} {b : Nat} {t t2 : TypeId} {s x : V} {d : D} (h : appendD P H b t t2 s x = some d) (ag : Ag H H' d.rd) : appendD P H' b t t2 s x = some d := by
  rw [appendD_eq] at h ⊢
  split at h
  · cases h
  · split at h
    · cases h
    · rename_i cs n ids hn
      obtain ⟨h1, h2⟩ := appR_ag (H' := H') h
      rw [newsA_ag hn fun i hi => ag i (h1 i hi)]
      exact h2 ag
theorem bltApp_ag {P : Program} {H H' : Nat → Option Ob} {b : Nat} {ts : Array TypeId} {s x : V} {d : D} (h : bltD P H b .append ts [s, x] = some d) (ag : Ag H H' d.rd) : bltD P H' b .append ts [s, x] = some d := by
  simp only [bltD] at h ⊢
  split at h
  · rename_i hs
    rw [if_pos hs]
    exact appendD_ag h ag
  · cases h
theorem convD_ag {P : Program} {H H' : Nat → Option Ob} {b : Nat} {src dst : TypeId} {x : V} {d : D} (h : convD P H b src dst x = some d) (ag : Ag H H' d.rd) : convD P H' b src dst x = some d := by
  have key : (∀ y, segV H 1 x = some y → segV H' 1 x = some y) → convD P H' b src dst x = some d := fun hs => by
    revert h
    unfold convD
    split
    · exact id
    · exact id
    · exact id
    · split
      · rename_i x _ _ _ _ _ _ _ _
        cases hy : segV H 1 x with
        | none => intro h; cases h
        | some y => rw [hs y hy]; exact id
      · exact id
    · exact id
  by_cases hx : ∃ y, segV H 1 x = some y
  · obtain ⟨⟨cs, ids⟩, hy⟩ := hx
    by_cases hr : ∀ i, i ∈ ids → i ∈ d.rd
    · exact key fun y hy' => by
        rw [hy] at hy'
        injection hy' with hy'
        subst hy'
        exact segV_ag hy fun i hi => ag i (hr i hi)
    · revert h
      unfold convD
      split
      · exact id
      · exact id
      · exact id
      · split
        · rw [hy]
          intro h
          obtain ⟨bs, hb, rfl⟩ := Option.map_eq_some_iff.1 h
          exact absurd (fun i hi => hi) hr
        · exact id
      · exact id
  · exact key fun y hy => absurd ⟨y, hy⟩ hx
theorem sliceD_ag {P : Program} {H H' : Nat → Option Ob} {t : TypeId} {x : V} {lo hi mx : Option V} {d : D} (h : sliceD P H t x lo hi mx = some d) (ag : Ag H H' d.rd) : sliceD P H' t x lo hi mx = some d := by
  revert h
  unfold sliceD
  split
  · exact id
  · split
    · split
      · split
        · exact id
        · split
          · rename_i idn ver off len _
            cases hH : H idn with
            | none => intro h; cases h
            | some ob =>
              intro h
              simp only at h
              split at h
              · rename_i hs
                injection h with h
                have he : H' idn = some ob := by rw [← ag idn (by rw [← h]; exact List.mem_cons_self ..), hH]
                rw [he]
                simp only
                rw [if_pos hs, h]
              · cases h
          · exact id
          · exact id
          · exact id
      · exact id
    · exact id
  · exact id

theorem mvC_ag {H H' : Nat → Option Ob} {v : V} (ho : mvOk H v = true) (ag : Ag H H' (mvC H v).2) : mvC H' v = mvC H v := by
  cases v <;> try rfl
  case sl id ver off len =>
    simp only [mvOk] at ho
    obtain ⟨u, hu⟩ := Option.isSome_iff_exists.1 ho
    simp only [mvC, hu] at ag ⊢
    obtain ⟨a1, a2⟩ := expN_ag depth _ u hu ag
    rw [a1, a2]
theorem mvL_ag {H H' : Nat → Option Ob} : ∀ {cs : List V}, cs.all (mvOk H) = true → Ag H H' ((cs.map (mvC H)).flatMap (·.2)) → cs.map (mvC H') = cs.map (mvC H)
  | [], _, _ => rfl
  | c :: cs, ho, ag => by
    rw [List.all_cons, Bool.and_eq_true] at ho
    rw [List.map_cons, List.flatMap_cons] at ag
    rw [List.map_cons, List.map_cons, mvC_ag ho.1 ag.l, mvL_ag ho.2 ag.r]
theorem mvOkL_ag {H H' : Nat → Option Ob} : ∀ {cs : List V}, cs.all (mvOk H) = true → Ag H H' ((cs.map (mvC H)).flatMap (·.2)) → cs.all (mvOk H') = true
  | [], _, _ => rfl
  | c :: cs, ho, ag => by
    rw [List.all_cons, Bool.and_eq_true] at ho
    rw [List.map_cons, List.flatMap_cons] at ag
    rw [List.all_cons, mvOkL_ag ho.2 ag.r, Bool.and_true]
    have h1 := ho.1
    have h2 := ag.l
    cases c <;> try rfl
    case sl id ver off len =>
      simp only [mvOk] at h1 ⊢
      obtain ⟨u, hu⟩ := Option.isSome_iff_exists.1 h1
      simp only [mvC, hu] at h2
      rw [(expN_ag depth _ u hu h2).1]; rfl
theorem storeD_ag {P : Program} {s : Bool} {H H' : Nat → Option Ob} {t : TypeId} {a x : V} {d : D} (h : storeD P s H t a x = some d) (hk : d.ok = true) (ag : Ag H H' d.rd) : storeD P s H' t a x = some d := by
  revert h
  unfold storeD
  split
  · rename_i n vs id ver off _ _
    cases hg : getO H id ver with
    | none => intro h; cases h
    | some ob =>
      intro h
      simp only at h
      split at h
      · rename_i hc
        have hid : id ∈ d.rd := by
          split at h
          · split at h
            · injection h with h; subst h; exact List.mem_cons_self ..
            · cases h
          · injection h with h; subst h; exact List.mem_cons_self ..
        rw [getO_ag (ag id hid), hg]
        simp only
        rw [if_pos hc]
        split at h
        · rename_i h2
          rw [if_pos h2]
          split at h
          · rename_i h3
            injection h with h
            subst h
            have e := mvL_ag hk ag.tl
            rw [e, if_pos h3, mvOkL_ag hk ag.tl]
            congr 2
            exact hk.symm
          · cases h
        · rename_i h2
          rw [if_neg h2]
          exact h
      · cases h
  · exact id

theorem opD_ag {P : Program} {modes : FuncId → List Nat} {s : Bool} {call : FuncId → List V → Option Res} {fr : Nat → V} {H H' : Nat → Option Ob} {b : Nat} {op : Op} {d : D} (hl : locOp modes op = true) (hk : d.ok = true) (h : opD P modes s call fr H b op = some d) (ag : Ag H H' d.rd) :
    opD P modes s call fr H' b op = some d := by
  cases op <;> simp only [locOp, noH, Bool.false_eq_true] at hl <;> try exact h
  case load t a =>
    simp only [opD] at h ⊢
    obtain ⟨x, h1, h2⟩ := Option.bind_eq_some_iff.1 h
    rw [h1]
    exact loadD_ag h2 ag
  case store t a x =>
    simp only [opD] at h ⊢
    split at h
    · exact storeD_ag h hk ag
    · cases h
  case buildSlice t n ps =>
    revert h
    simp only [opD]
    split
    · split
      · split
        · split
          · split
            · exact id
            · split
              · exact id
              · rename_i cs _ _ _
                intro h
                split at h
                · rename_i h3
                  injection h with h
                  subst h
                  have e := mvL_ag hk ag
                  rw [e, if_pos h3, mvOkL_ag hk ag]
                  congr 2
                  exact hk.symm
                · cases h
          · exact id
        · exact id
      · exact id
    · exact id
  case convert src dst x =>
    simp only [opD] at h ⊢
    obtain ⟨y, h1, h2⟩ := Option.bind_eq_some_iff.1 h
    rw [h1]
    exact convD_ag h2 ag
  case slice t x lo hi mx =>
    simp only [opD] at h ⊢
    split at h
    · rename_i h1 h2 h3 h4
      exact sliceD_ag h ag
    · cases h
  case call c =>
    simp only [opD] at h ⊢
    unfold callOp at h ⊢
    split at h
    · rename_i f hc
      rw [hc] at hl
      obtain ⟨args, h1, h2⟩ := Option.bind_eq_some_iff.1 h
      rw [h1]
      rw [Option.bind_some]
      rcases args with _ | ⟨a1, _ | ⟨a2, _ | ⟨a3, args⟩⟩⟩ <;> cases f <;> simp only [Bool.false_eq_true] at hl <;> first | exact h2 | exact bltApp_ag h2 ag
    · rename_i g hc
      rw [hc] at hl
      cases g <;> simp only [Bool.false_eq_true] at hl
      case func f =>
        obtain ⟨args, h1, h2⟩ := Option.bind_eq_some_iff.1 h
        rw [h1]
        simp only [ev, Option.bind_some, calleeV] at h2 ⊢
        exact callD_ag (fun m hm => by simpa using List.all_eq_true.1 hl m hm) h2 ag
    · cases h

end Go.Proofs.Ytclebbjpacpbmaa.Ev
