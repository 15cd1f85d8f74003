/- The abstract interpreter: what an operation's outcome hangs on. regions that draw their order. Conditions: none. -/
import Derived.Test.YtacfkfdnncgjcaaEvR
section
set_option linter.unusedVariables false
set_option linter.unusedSimpArgs false
namespace Go.Proofs.Ytacfkfdnncgjcaa.Ev
open Go

def Ag (H H' : Nat → Option Ob) (ids : List Nat) : Prop := ∀ id, id ∈ ids → H id = H' id
theorem Ag.l {H H' : Nat → Option Ob} {a b : List Nat} (h : Ag H H' (a ++ b)) : Ag H H' a := fun id hi => h id (List.mem_append.2 (.inl hi))
theorem Ag.r {H H' : Nat → Option Ob} {a b : List Nat} (h : Ag H H' (a ++ b)) : Ag H H' b := fun id hi => h id (List.mem_append.2 (.inr hi))
theorem Ag.hd {H H' : Nat → Option Ob} {a : Nat} {b : List Nat} (h : Ag H H' (a :: b)) : H a = H' a := h a (List.mem_cons_self ..)
theorem Ag.tl {H H' : Nat → Option Ob} {a : Nat} {b : List Nat} (h : Ag H H' (a :: b)) : Ag H H' b := fun id hi => h id (List.mem_cons_of_mem _ hi)
theorem getO_ag {H H' : Nat → Option Ob} {id ver : Nat} (h : H id = H' id) : getO H' id ver = getO H id ver := by unfold getO; rw [h]

section
variable {H H' : Nat → Option Ob}

theorem mapM_ag {f f' : V → Option V} {g g' : V → List Nat} (hf : ∀ v u, f v = some u → Ag H H' (g v) → f' v = some u ∧ g' v = g v) : ∀ {l : List V} {us : List V}, l.mapM f = some us → Ag H H' (l.flatMap g) → l.mapM f' = some us ∧ l.flatMap g' = l.flatMap g
  | [], us, h, _ => ⟨h, rfl⟩
  | a :: l, us, h, ag => by
    rw [List.mapM_cons] at h
    obtain ⟨u, h1, h2⟩ := Option.bind_eq_some_iff.1 h
    obtain ⟨us', h3, h4⟩ := Option.bind_eq_some_iff.1 h2
    rw [List.flatMap_cons] at ag
    obtain ⟨a1, a2⟩ := hf a u h1 ag.l
    obtain ⟨b1, b2⟩ := mapM_ag hf h3 ag.r
    refine ⟨?_, by rw [List.flatMap_cons, List.flatMap_cons, a2, b2]⟩
    rw [List.mapM_cons, a1, b1]
    exact h4

theorem purN_ag : ∀ (k : Nat) (v u : V), purN H k v = some u → Ag H H' (idsN H k v) → purN H' k v = some u ∧ idsN H' k v = idsN H k v
  | 0, v, u, h, _ => by cases v <;> first | exact ⟨h, rfl⟩ | simp [purN] at h
  | k + 1, v, u, h, ag => by
    have ih := fun v u => purN_ag k v u
    cases v <;> try exact ⟨h, rfl⟩
    case uniq sz n cs =>
      simp only [purN, idsN] at h ag ⊢
      obtain ⟨us, h1, h2⟩ := Option.map_eq_some_iff.1 h
      obtain ⟨a1, a2⟩ := mapM_ag ih h1 ag
      rw [a1, a2]; exact ⟨congrArg some h2, rfl⟩
    case sl id ver off len =>
      simp only [purN, idsN] at h ag ⊢
      cases hg : getO H id ver with
      | none => simp [hg] at h
      | some ob =>
        simp only [hg] at h ag
        rw [getO_ag ag.hd, hg]
        simp only
        split at h
        · rename_i hc
          rw [if_pos hc]
          obtain ⟨us, h1, h2⟩ := Option.map_eq_some_iff.1 h
          obtain ⟨a1, a2⟩ := mapM_ag ih h1 ag.tl
          rw [a1, a2]; exact ⟨congrArg some h2, rfl⟩
        · cases h
    case ptr id ver off =>
      simp only [purN, idsN] at h ag ⊢
      cases hg : getO H id ver with
      | none => simp [hg] at h
      | some ob =>
        simp only [hg] at h ag
        rw [getO_ag ag.hd, hg]
        simp only
        obtain ⟨us, h1, h2⟩ := Option.map_eq_some_iff.1 h
        obtain ⟨a1, a2⟩ := mapM_ag ih h1 ag.tl
        rw [a1, a2]; exact ⟨congrArg some h2, rfl⟩
    case func f fi ca =>
      simp only [purN, idsN] at h ag ⊢
      cases h1 : fi.mapM (purN H k) with
      | none => simp [h1] at h
      | some fi' =>
        cases h2 : ca.mapM (purN H k) with
        | none => simp [h1, h2] at h
        | some ca' =>
          obtain ⟨a1, a2⟩ := mapM_ag ih h1 ag.l
          obtain ⟨b1, b2⟩ := mapM_ag ih h2 ag.r
          simp only [h1, h2] at h
          rw [a1, a2, b1, b2]; exact ⟨h, rfl⟩
    case agg cs =>
      simp only [purN, idsN] at h ag ⊢
      obtain ⟨us, h1, h2⟩ := Option.map_eq_some_iff.1 h
      obtain ⟨a1, a2⟩ := mapM_ag ih h1 ag
      rw [a1, a2]; exact ⟨congrArg some h2, rfl⟩
    case tup cs =>
      simp only [purN, idsN] at h ag ⊢
      obtain ⟨us, h1, h2⟩ := Option.map_eq_some_iff.1 h
      obtain ⟨a1, a2⟩ := mapM_ag ih h1 ag
      rw [a1, a2]; exact ⟨congrArg some h2, rfl⟩
    case iface t v =>
      simp only [purN, idsN] at h ag ⊢
      obtain ⟨us, h1, h2⟩ := Option.map_eq_some_iff.1 h
      obtain ⟨a1, a2⟩ := ih v us h1 ag
      rw [a1, a2]; exact ⟨congrArg some h2, rfl⟩

theorem expN_ag : ∀ (k : Nat) (v u : V), expN H k v = some u → Ag H H' (eidN H k v) → expN H' k v = some u ∧ eidN H' k v = eidN H k v
  | 0, v, u, h, _ => by cases v <;> exact ⟨h, rfl⟩
  | k + 1, v, u, h, ag => by
    have ih := fun v u => expN_ag k v u
    cases v <;> try exact ⟨h, rfl⟩
    case sl id ver off len =>
      simp only [expN, eidN] at h ag ⊢
      cases hg : getO H id ver with
      | none => simp [hg] at h
      | some ob =>
        simp only [hg] at h ag
        rw [getO_ag ag.hd, hg]
        simp only
        split at h
        · rename_i hc
          rw [if_pos hc]
          obtain ⟨us, h1, h2⟩ := Option.map_eq_some_iff.1 h
          obtain ⟨a1, a2⟩ := mapM_ag ih h1 ag.tl
          rw [a1, a2]; exact ⟨congrArg some h2, rfl⟩
        · cases h
    case agg cs =>
      simp only [expN, eidN] at h ag ⊢
      obtain ⟨us, h1, h2⟩ := Option.map_eq_some_iff.1 h
      obtain ⟨a1, a2⟩ := mapM_ag ih h1 ag
      rw [a1, a2]; exact ⟨congrArg some h2, rfl⟩
    case tup cs =>
      simp only [expN, eidN] at h ag ⊢
      obtain ⟨us, h1, h2⟩ := Option.map_eq_some_iff.1 h
      obtain ⟨a1, a2⟩ := mapM_ag ih h1 ag
      rw [a1, a2]; exact ⟨congrArg some h2, rfl⟩

theorem exp0_H {v u : V} (h : expN H 0 v = some u) : expN H' 0 v = some u := by
  cases v <;> exact h
theorem mapM_exp0 : ∀ {l us : List V}, l.mapM (expN H 0) = some us → l.mapM (expN H' 0) = some us
  | [], us, h => h
  | v :: l, us, h => by
    rw [List.mapM_cons] at h ⊢
    obtain ⟨u, h1, h2⟩ := Option.bind_eq_some_iff.1 h
    obtain ⟨us', h3, h4⟩ := Option.bind_eq_some_iff.1 h2
    rw [exp0_H h1]
    simp only [Option.bind_eq_bind, Option.bind_some]
    rw [mapM_exp0 h3]
    exact h4
theorem ptrU_ag {id ver off : Nat} {u : V} (h : ptrU H (.ptr id ver off) = some u) (ag : Ag H H' [id]) : ptrU H' (.ptr id ver off) = some u := by
  unfold ptrU at h ⊢
  simp only at h ⊢
  rw [getO_ag (ag id (List.mem_cons_self ..))]
  split at h
  · rename_i ob hob
    split at h
    · rename_i hc
      rw [if_pos hc]
      obtain ⟨us, h1, h2⟩ := Option.map_eq_some_iff.1 h
      rw [mapM_exp0 h1]
      exact congrArg some h2
    · cases h
  · cases h

theorem ownX_ag {v u : V} (h : ownX H v = some u) (ag : Ag H H' (ownI H v)) : ownX H' v = some u ∧ ownI H' v = ownI H v := by
  cases v <;> simp only [ownX, reduceCtorEq] at h
  case sl id ver off len =>
    cases hg : getO H id ver with
    | none => simp [hg] at h
    | some ob =>
      simp only [hg] at h
      split at h
      · rename_i hc
        have hid : id ∈ eidN H depth (.sl id ver off len) := by
          simp only [depth, eidN, hg]; exact List.mem_cons_self ..
        obtain ⟨a1, a2⟩ := expN_ag depth _ u h ag
        refine ⟨?_, a2⟩
        simp only [ownX]
        rw [getO_ag (ag id hid), hg]
        simp only
        rw [if_pos hc, a1]
      · cases h
  case ptr id ver off =>
    exact ⟨ptrU_ag h ag, rfl⟩
theorem ownX_id {id ver off len : Nat} {u : V} (h : ownX H (.sl id ver off len) = some u) : id ∈ ownI H (.sl id ver off len) := by
  simp only [ownX] at h
  cases hg : getO H id ver with
  | none => simp [hg] at h
  | some ob => simp only [ownI, depth, eidN, hg]; exact List.mem_cons_self ..

theorem share_ag {a : V} {p : AP} (h : (purN H depth a).map (fun v => ({ v, rd := idsN H depth a } : AP)) = some p) (ag : Ag H H' (p.own ++ p.rd)) :
    (purN H' depth a).map (fun v => ({ v, rd := idsN H' depth a } : AP)) = some p := by
  obtain ⟨u, h1, rfl⟩ := Option.map_eq_some_iff.1 h
  obtain ⟨a1, a2⟩ := purN_ag depth a u h1 ag.r
  rw [a1, a2]; rfl

theorem prepA_ag {m : Nat} (hm : m ≠ 2) {a : V} {p : AP} (h : prepA H m a = some p) (ag : Ag H H' (p.own ++ p.rd)) : prepA H' m a = some p := by
  by_cases h1 : m = 1
  · subst h1
    by_cases ha : ∃ cs, a = .agg cs
    · obtain ⟨cs, rfl⟩ := ha
      simp only [prepA] at h ⊢
      cases hc : cs.mapM (fun c => if isRefV c = true then ownX H c else expN H depth c) with
      | none => simp [hc] at h
      | some cs' =>
        simp only [hc, Option.some.injEq] at h
        subst h
        obtain ⟨a1, a2⟩ := mapM_ag (H := H) (H' := H') (f := fun c => if isRefV c = true then ownX H c else expN H depth c) (f' := fun c => if isRefV c = true then ownX H' c else expN H' depth c) (g := fun c => if isRefV c = true then ownI H c else eidN H depth c) (g' := fun c => if isRefV c = true then ownI H' c else eidN H' depth c) (fun v u hv hag => by
          by_cases hr : isRefV v = true
          · simp only [hr, if_true] at hv hag ⊢
            exact ownX_ag hv hag
          · simp only [hr, if_false, Bool.false_eq_true] at hv hag ⊢
            exact expN_ag depth v u hv hag) hc ag.l
        rw [a1, a2]
    · have e : ∀ H, prepA H 1 a = if isRefV a then (ownX H a).map fun v => { v, own := ownI H a, back := true } else (purN H depth a).map fun v => { v, rd := idsN H depth a } := fun H => by
        cases a <;> first | rfl | exact absurd ⟨_, rfl⟩ ha
      rw [e] at h ⊢
      split at h
      · rename_i hr
        rw [if_pos hr]
        obtain ⟨u, h1, rfl⟩ := Option.map_eq_some_iff.1 h
        obtain ⟨a1, a2⟩ := ownX_ag h1 ag.l
        rw [a1, a2]; rfl
      · rename_i hr
        rw [if_neg hr]
        exact share_ag h ag
  · have e : ∀ H, prepA H m a = (purN H depth a).map fun v => { v, rd := idsN H depth a } := fun H => by
      unfold prepA
      match m, hm, h1 with
      | 0, _, _ => rfl
      | 1, _, h => exact absurd rfl h
      | 2, h, _ => exact absurd rfl h
      | n + 3, _, _ => rfl
    rw [e] at h ⊢
    exact share_ag h ag

theorem prepL_ag : ∀ {ms : List Nat} {as : List V} {ps : List AP}, (∀ m, m ∈ ms → m ≠ 2) → prepL H ms as = some ps → Ag H H' (ps.flatMap (·.own) ++ ps.flatMap (·.rd)) → prepL H' ms as = some ps
  | ms, [], ps, _, h, _ => h
  | ms, a :: as, ps, hm, h, ag => by
    simp only [prepL] at h ⊢
    cases h1 : prepA H (ms.headD 0) a with
    | none =>
      rw [h1] at h
      have h' : (none : Option (List AP)) = some ps := h
      cases h'
    | some p =>
      cases h2 : prepL H ms.tail as with
      | none => simp [h1, h2] at h
      | some qs =>
        simp only [h1, h2, Option.some.injEq] at h
        subst h
        have hm1 : ms.headD 0 ≠ 2 := by
          cases ms with
          | nil => simp
          | cons m ms => exact hm m (List.mem_cons_self ..)
        have ag1 : Ag H H' (p.own ++ p.rd) := fun id hi => ag id (by
          simp only [List.flatMap_cons, List.mem_append] at hi ⊢
          rcases hi with hi | hi
          · exact .inl (.inl hi)
          · exact .inr (.inl hi))
        have ag2 : Ag H H' (qs.flatMap (·.own) ++ qs.flatMap (·.rd)) := fun id hi => ag id (by
          simp only [List.flatMap_cons, List.mem_append] at hi ⊢
          rcases hi with hi | hi
          · exact .inl (.inr hi)
          · exact .inr (.inr hi))
        rw [prepA_ag hm1 h1 ag1, prepL_ag (fun m hmm => hm m (List.mem_of_mem_tail hmm)) h2 ag2]

/-- The object that a reference names. -/
def idOf : V → List Nat
  | .sl id _ _ _ | .ptr id _ _ => [id]
  | _ => []
theorem backO_ag {a o : V} (h : ∀ id, id ∈ idOf a → H id = H' id) : backO H' a o = backO H a o := by
  unfold backO
  split
  · rw [h _ (List.mem_cons_self ..)]
  · rfl
  · rw [h _ (List.mem_cons_self ..)]
  · rfl
  · rfl
theorem backL_ag : ∀ {cs os : List V}, (∀ id, id ∈ cs.flatMap idOf → H id = H' id) → backL H' cs os = backL H cs os
  | [], [], _ => rfl
  | [], _ :: _, _ => rfl
  | _ :: _, [], _ => rfl
  | c :: cs, o :: os, h => by
    simp only [backL]
    rw [backO_ag (H := H) (H' := H') fun id e => h id (by rw [List.flatMap_cons]; exact List.mem_append.2 (.inl e)), backL_ag fun id hc => h id (by rw [List.flatMap_cons]; exact List.mem_append.2 (.inr hc))]

def bkX (H : Nat → Option Ob) (a o : V) : Option (List (Nat × Option Ob)) :=
  match a, o with
  | .agg cs, .agg os => backL H cs os
  | a, o => backO H a o
theorem backX_ag {a o : V} (r1 : ∀ id, id ∈ idOf a → H id = H' id) (r2 : ∀ cs, a = .agg cs → ∀ id, id ∈ cs.flatMap idOf → H id = H' id) : bkX H' a o = bkX H a o := by
  have h1 := backO_ag (H := H) (H' := H') (o := o) r1
  cases a <;> try exact h1
  case agg cs =>
    cases o <;> try exact h1
    case agg os => exact backL_ag fun id hc => r2 cs rfl id hc

theorem prepA_refs {m : Nat} (hm : m ≠ 2) {a : V} {p : AP} (h : prepA H m a = some p) (hb : p.back = true) :
    (∀ id, id ∈ idOf a → id ∈ p.own) ∧ (∀ cs, a = .agg cs → ∀ id, id ∈ cs.flatMap idOf → id ∈ p.own) := by
  by_cases h1 : m = 1
  · subst h1
    refine ⟨?_, ?_⟩
    · intro id hid
      cases a <;> try (cases hid; done)
      case sl id0 ver off len =>
        have e : prepA H 1 (.sl id0 ver off len) = (ownX H (.sl id0 ver off len)).map fun v => { v, own := ownI H (.sl id0 ver off len), back := true } := rfl
        rw [e] at h
        obtain ⟨u, hu, rfl⟩ := Option.map_eq_some_iff.1 h
        have : id = id0 := by simpa [idOf] using hid
        subst this
        exact ownX_id hu
      case ptr id0 ver off =>
        have e : prepA H 1 (.ptr id0 ver off) = (ownX H (.ptr id0 ver off)).map fun v => { v, own := ownI H (.ptr id0 ver off), back := true } := rfl
        rw [e] at h
        obtain ⟨u, hu, rfl⟩ := Option.map_eq_some_iff.1 h
        exact hid
    · rintro cs rfl id hid
      obtain ⟨c, hc, hid⟩ := List.mem_flatMap.1 hid
      simp only [prepA] at h
      cases hcs : cs.mapM (fun c => if isRefV c = true then ownX H c else expN H depth c) with
      | none => simp [hcs] at h
      | some cs' =>
        simp only [hcs, Option.some.injEq] at h
        subst h
        refine List.mem_flatMap.2 ⟨_, hc, ?_⟩
        have hr : isRefV c = true := by cases c <;> first | rfl | (cases hid; done)
        have : ∃ u, ownX H c = some u := by
          have key : ∀ {l us : List V} {d : V}, l.mapM (fun c => if isRefV c = true then ownX H c else expN H depth c) = some us → d ∈ l → isRefV d = true → ∃ u, ownX H d = some u := by
            intro l
            induction l with
            | nil => intro us d _ hx; cases hx
            | cons c l ih =>
              intro us d hm hx hd
              rw [List.mapM_cons] at hm
              obtain ⟨u, h1, h2⟩ := Option.bind_eq_some_iff.1 hm
              obtain ⟨us', h3, _⟩ := Option.bind_eq_some_iff.1 h2
              rcases List.mem_cons.1 hx with rfl | hx
              · rw [if_pos hd] at h1; exact ⟨u, h1⟩
              · exact ih h3 hx hd
          exact key hcs hc hr
        obtain ⟨u, hu⟩ := this
        rw [if_pos hr]
        cases c <;> try (cases hid; done)
        case sl id0 ver off len =>
          have : id = id0 := by simpa [idOf] using hid
          subst this
          exact ownX_id hu
        case ptr id0 ver off => exact hid
  · have e : prepA H m a = (purN H depth a).map fun v => { v, rd := idsN H depth a } := by
      unfold prepA
      match m, hm, h1 with
      | 0, _, _ => rfl
      | 1, _, h => exact absurd rfl h
      | 2, h, _ => exact absurd rfl h
      | n + 3, _, _ => rfl
    rw [e] at h
    obtain ⟨u, _, rfl⟩ := Option.map_eq_some_iff.1 h
    cases hb

theorem backW_ag : ∀ {ms : List Nat} {as : List V} {ps : List AP} {os : List V}, (∀ m, m ∈ ms → m ≠ 2) → prepL H ms as = some ps → Ag H H' (ps.flatMap (·.own)) → backW H' as ps os = backW H as ps os
  | ms, [], ps, os, _, h, _ => by
    simp only [prepL, Option.some.injEq] at h
    subst h; rfl
  | ms, a :: as, ps, os, hm, h, ag => by
    simp only [prepL] at h
    cases h1 : prepA H (ms.headD 0) a with
    | none =>
      rw [h1] at h
      have h' : (none : Option (List AP)) = some ps := h
      cases h'
    | some p =>
      cases h2 : prepL H ms.tail as with
      | none => simp [h1, h2] at h
      | some qs =>
        simp only [h1, h2, Option.some.injEq] at h
        subst h
        have hm1 : ms.headD 0 ≠ 2 := by
          cases ms with
          | nil => simp
          | cons m ms => exact hm m (List.mem_cons_self ..)
        rw [List.flatMap_cons] at ag
        have ih := backW_ag (os := os.tail) (fun m hmm => hm m (List.mem_of_mem_tail hmm)) h2 ag.r
        simp only [backW]
        rw [ih]
        cases hb : p.back with
        | false => rfl
        | true =>
          obtain ⟨r1, r2⟩ := prepA_refs hm1 h1 hb
          simp only [if_true]
          have here := backX_ag (H := H) (H' := H') (a := a) (o := os.headD .undef) (fun id e => ag.l id (r1 id e)) (fun cs e id hc => ag.l id (r2 cs e id hc))
          have step : ∀ z z' : Option (List (Nat × Option Ob)), z = z' → (match z, backW H as qs os.tail with
              | some x, some y => some ((p.own.map fun i => (i, none)) ++ x ++ y)
              | _, _ => none) = (match z', backW H as qs os.tail with
              | some x, some y => some ((p.own.map fun i => (i, none)) ++ x ++ y)
              | _, _ => none) := by rintro _ _ rfl; rfl
          exact step _ _ here

theorem flatO_ag {ids : List Nat} (ag : Ag H H' ids) : flatO H' ids = flatO H ids := by
  unfold flatO
  induction ids with
  | nil => rfl
  | cons i ids ih => rw [List.all_cons, List.all_cons, ag.hd, ih ag.tl]
theorem freezeW_ag {ids : List Nat} (ag : Ag H H' ids) : freezeW H' ids = freezeW H ids := by
  unfold freezeW
  induction ids with
  | nil => rfl
  | cons i ids ih => rw [List.filterMap_cons, List.filterMap_cons, ag.hd, ih ag.tl]

theorem callD_ag {b : Nat} {s : Bool} {ms : List Nat} {call : List V → Option Res} {args : List V} {d : D} (hm : ∀ m, m ∈ ms → m ≠ 2) (h : callD H b s ms call args = some d) (ag : Ag H H' d.rd) : callD H' b s ms call args = some d := by
  unfold callD at h ⊢
  cases hp : prepL H ms args with
  | none => simp [hp] at h
  | some ps =>
    simp only [hp] at h
    split at h
    · rename_i hc
      have hrd : d.rd = ps.flatMap (·.own) ++ ps.flatMap (·.rd) := by
        split at h
        · cases h
        · split at h
          · cases h
          · split at h
            · split at h
              · injection h with h; subst h; rfl
              · cases h
            · injection h with h; subst h; rfl
      rw [hrd] at ag
      rw [prepL_ag hm hp ag]
      simp only
      rw [flatO_ag ag.l, if_pos hc, freezeW_ag ag.r]
      cases hr : call (ps.map (·.v)) with
      | none => simp [hr] at h
      | some r =>
        simp only [hr] at h ⊢
        rw [backW_ag hm hp ag.l]
        exact h
    · cases h

theorem loadD_ag {P : Program} {s : Bool} {b : Nat} {t : TypeId} {a : V} {d : D} (h : loadD P s H b t a = some d) (ag : Ag H H' d.rd) : loadD P s H' b t a = some d := by
  unfold loadD at h ⊢
  cases hl : ldT P t with
  | none => simp [hl] at h
  | some x =>
    obtain ⟨agg, n⟩ := x
    simp only [hl] at h ⊢
    cases a <;> try exact h
    case ptr id ver off =>
      simp only at h ⊢
      cases hg : getO H id ver with
      | none => simp [hg] at h
      | some ob =>
        have hid : id ∈ d.rd := by
          simp only [hg] at h
          split at h
          · split at h
            · split at h
              · split at h
                · injection h with h; subst h; simp
                · cases h
              · obtain ⟨u, _, rfl⟩ := Option.map_eq_some_iff.1 h; simp
            · cases h
          · obtain ⟨c, _, h⟩ := Option.bind_eq_some_iff.1 h
            split at h
            · split at h
              · injection h with h; subst h; simp
              · cases h
            · obtain ⟨u, _, rfl⟩ := Option.map_eq_some_iff.1 h; simp
        rw [getO_ag (ag id hid)]
        exact h
end

theorem segV_ag {sz : Nat} {x : V} {cs : List V} {ids : List Nat} {H H' : Nat → Option Ob} (h : segV H sz x = some (cs, ids)) (ag : Ag H H' ids) : segV H' sz x = some (cs, ids) := by
  cases x <;> try exact h
  case sl id ver off len =>
    simp only [segV] at h ⊢
    cases hg : getO H id ver with
    | none => simp [hg] at h
    | some ob =>
      simp only [hg] at h
      split at h
      · rename_i hc
        simp only [Option.some.injEq, Prod.mk.injEq] at h
        obtain ⟨rfl, rfl⟩ := h
        rw [getO_ag ag.hd, hg]
        simp only
        rw [if_pos hc]
      · cases h
def newsA (P : Program) (H : Nat → Option Ob) (t t2 : TypeId) (sz : Nat) (x : V) : Option (List V × Nat × List Nat) := match x with
  | .str y => if sz = 1 ∧ isStrT (P.underlying t2) = true then some (bytesV y, y.size, []) else none
  | x => match segV H sz x, lenV x with
    | some (cs, ids), some n => if t2 = t then some (cs, n, ids) else none
    | _, _ => none
def appR (H : Nat → Option Ob) (b sz bytes : Nat) (s : V) (cs : List V) (n : Nat) (ids : List Nat) : Option D :=
  if (goneOf cs ids).all (fun i => decide (1 ≤ lvO H i)) = false then none else
  match s with
  | .nils => if n * bytes ≤ 140737488355328 then
      some { v := .sl b 0 0 n, rd := ids, wr := ((goneOf cs ids).map fun i => (i, none)) ++ [(b, some ⟨0, 2, sz, cs⟩)] } else none
  | .sl id ver off len => match getO H id ver with
    | some ob =>
      if off = 0 ∧ ob.lv = 2 ∧ ob.sz = sz ∧ ob.cells.length = len * sz ∧ (len + n) * bytes ≤ 140737488355328 ∧ ids.contains id = false then
        some { v := .sl id (ver + 1) 0 (len + n), rd := id :: ids, wr := ((goneOf cs ids).map fun i => (i, none)) ++ [(id, some { ob with ver := ver + 1, cells := ob.cells ++ cs })] }
      else none
    | none => none
  | _ => none
theorem appendD_eq {P : Program} {H : Nat → Option Ob} {b : Nat} {t t2 : TypeId} {s x : V} : appendD P H b t t2 s x = match apT P t with
    | none => none
    | some (_, sz, bytes) => match newsA P H t t2 sz x with
      | none => none
      | some (cs, n, ids) => appR H b sz bytes s cs n ids := rfl
theorem goneOf_sub {cs : List V} {ids : List Nat} {i : Nat} (h : i ∈ goneOf cs ids) : i ∈ ids := by
  unfold goneOf at h
  split at h
  · exact h
  · cases h
theorem lvO_ag {H H' : Nat → Option Ob} : ∀ {l : List Nat}, (∀ i, i ∈ l → H i = H' i) → l.all (fun i => decide (1 ≤ lvO H' i)) = l.all (fun i => decide (1 ≤ lvO H i))
  | [], _ => rfl
  | i :: l, h => by
    rw [List.all_cons, List.all_cons, lvO_ag fun j hj => h j (List.mem_cons_of_mem _ hj)]
    unfold lvO
    rw [h i (List.mem_cons_self ..)]
theorem appR_ag {H H' : Nat → Option Ob} {b sz bytes : Nat} {s : V} {cs : List V} {n : Nat} {ids : List Nat} {d : D} (h : appR H b sz bytes s cs n ids = some d) :
    (∀ i, i ∈ ids → i ∈ d.rd) ∧ (Ag H H' d.rd → appR H' b sz bytes s cs n ids = some d) := by
  unfold appR at h ⊢
  split at h
  · cases h
  · rename_i hg
    have sub : ∀ i, i ∈ ids → i ∈ d.rd := by
      split at h
      · split at h
        · injection h with h; subst h; exact fun i hi => hi
        · cases h
      · split at h
        · split at h
          · injection h with h; subst h; exact fun i hi => List.mem_cons_of_mem _ hi
          · cases h
        · cases h
      · cases h
    refine ⟨sub, fun ag => ?_⟩
    rw [lvO_ag fun i hi => ag i (sub i (goneOf_sub hi)), if_neg hg]
    split at h
    · exact h
    · rename_i id ver off len
      cases hgo : getO H id ver with
      | none => simp [hgo] at h
      | some ob =>
        simp only [hgo] at h
        split at h
        · rename_i hc
          have hid : id ∈ d.rd := by injection h with h; subst h; exact List.mem_cons_self ..
          simp only [getO_ag (ag id hid), hgo]
          rw [if_pos hc]
          exact h
        · cases h
    · cases h
theorem newsA_ag {P : Program} {H H' : Nat → Option Ob} {t t2 : TypeId} {sz : Nat} {x : V} {cs : List V} {n : Nat} {ids : List Nat} (h : newsA P H t t2 sz x = some (cs, n, ids)) (ag : ∀ i, i ∈ ids → H i = H' i) : newsA P H' t t2 sz x = some (cs, n, ids) := by
  unfold newsA at h ⊢
  split at h
  · exact h
  · cases hs : segV H sz x with
    | none => simp [hs] at h
    | some y =>
      obtain ⟨cs', ids'⟩ := y
      cases hl : lenV x with
      | none => simp [hs, hl] at h
      | some m =>
        simp only [hs, hl] at h
        split at h
        · rename_i ht
          simp only [Option.some.injEq, Prod.mk.injEq] at h
          obtain ⟨rfl, rfl, rfl⟩ := h
          rw [segV_ag hs fun i hi => ag i hi]
          simp only
          rw [if_pos ht]
        · cases h
theorem appendD_ag {P : Program} {H H' : Nat → Option Ob} {b : Nat} {t t2 : TypeId} {s x : V} {d : D} (h : appendD P H b t t2 s x = some d) (ag : Ag H H' d.rd) : appendD P H' b t t2 s x = some d := by
  rw [appendD_eq] at h ⊢
  split at h
  · cases h
  · split at h
    · cases h
    · rename_i cs n ids hn
      obtain ⟨h1, h2⟩ := appR_ag (H' := H') h
      rw [newsA_ag hn fun i hi => ag i (h1 i hi)]
      exact h2 ag
theorem bltApp_ag {P : Program} {H H' : Nat → Option Ob} {b : Nat} {ts : Array TypeId} {s x : V} {d : D} (h : bltD P H b .append ts [s, x] = some d) (ag : Ag H H' d.rd) : bltD P H' b .append ts [s, x] = some d := by
  simp only [bltD] at h ⊢
  split at h
  · rename_i hs
    rw [if_pos hs]
    exact appendD_ag h ag
  · cases h
theorem convD_ag {P : Program} {H H' : Nat → Option Ob} {b : Nat} {src dst : TypeId} {x : V} {d : D} (h : convD P H b src dst x = some d) (ag : Ag H H' d.rd) : convD P H' b src dst x = some d := by
  have key : (∀ y, segV H 1 x = some y → segV H' 1 x = some y) → convD P H' b src dst x = some d := fun hs => by
    revert h
    unfold convD
    split
    · exact id
    · exact id
    · exact id
    · split
      · rename_i x _ _ _ _ _ _ _ _
        cases hy : segV H 1 x with
        | none => intro h; cases h
        | some y => rw [hs y hy]; exact id
      · exact id
    · exact id
  by_cases hx : ∃ y, segV H 1 x = some y
  · obtain ⟨⟨cs, ids⟩, hy⟩ := hx
    by_cases hr : ∀ i, i ∈ ids → i ∈ d.rd
    · exact key fun y hy' => by
        rw [hy] at hy'
        injection hy' with hy'
        subst hy'
        exact segV_ag hy fun i hi => ag i (hr i hi)
    · revert h
      unfold convD
      split
      · exact id
      · exact id
      · exact id
      · split
        · rw [hy]
          intro h
          obtain ⟨bs, hb, rfl⟩ := Option.map_eq_some_iff.1 h
          exact absurd (fun i hi => hi) hr
        · exact id
      · exact id
  · exact key fun y hy => absurd ⟨y, hy⟩ hx
theorem sliceD_ag {P : Program} {H H' : Nat → Option Ob} {t : TypeId} {x : V} {lo hi mx : Option V} {d : D} (h : sliceD P H t x lo hi mx = some d) (ag : Ag H H' d.rd) : sliceD P H' t x lo hi mx = some d := by
  revert h
  unfold sliceD
  split
  · exact id
  · split
    · split
      · split
        · exact id
        · split
          · rename_i idn ver off len _
            cases hH : H idn with
            | none => intro h; cases h
            | some ob =>
              intro h
              simp only at h
              split at h
              · rename_i hs
                injection h with h
                have he : H' idn = some ob := by rw [← ag idn (by rw [← h]; exact List.mem_cons_self ..), hH]
                rw [he]
                simp only
                rw [if_pos hs, h]
              · cases h
          · exact id
          · exact id
          · exact id
      · exact id
    · exact id
  · exact id

theorem mvC_ag {H H' : Nat → Option Ob} {v : V} (ho : mvOk H v = true) (ag : Ag H H' (mvC H v).2) : mvC H' v = mvC H v := by
  cases v <;> try rfl
  case sl id ver off len =>
    simp only [mvOk] at ho
    obtain ⟨u, hu⟩ := Option.isSome_iff_exists.1 ho
    simp only [mvC, hu] at ag ⊢
    obtain ⟨a1, a2⟩ := expN_ag depth _ u hu ag
    rw [a1, a2]
theorem mvL_ag {H H' : Nat → Option Ob} : ∀ {cs : List V}, cs.all (mvOk H) = true → Ag H H' ((cs.map (mvC H)).flatMap (·.2)) → cs.map (mvC H') = cs.map (mvC H)
  | [], _, _ => rfl
  | c :: cs, ho, ag => by
    rw [List.all_cons, Bool.and_eq_true] at ho
    rw [List.map_cons, List.flatMap_cons] at ag
    rw [List.map_cons, List.map_cons, mvC_ag ho.1 ag.l, mvL_ag ho.2 ag.r]
theorem mvOkL_ag {H H' : Nat → Option Ob} : ∀ {cs : List V}, cs.all (mvOk H) = true → Ag H H' ((cs.map (mvC H)).flatMap (·.2)) → cs.all (mvOk H') = true
  | [], _, _ => rfl
  | c :: cs, ho, ag => by
    rw [List.all_cons, Bool.and_eq_true] at ho
    rw [List.map_cons, List.flatMap_cons] at ag
    rw [List.all_cons, mvOkL_ag ho.2 ag.r, Bool.and_true]
    have h1 := ho.1
    have h2 := ag.l
    cases c <;> try rfl
    case sl id ver off len =>
      simp only [mvOk] at h1 ⊢
      obtain ⟨u, hu⟩ := Option.isSome_iff_exists.1 h1
      simp only [mvC, hu] at h2
      rw [(expN_ag depth _ u hu h2).1]; rfl
theorem storeD_ag {P : Program} {s : Bool} {H H' : Nat → Option Ob} {t : TypeId} {a x : V} {d : D} (h : storeD P s H t a x = some d) (hk : d.ok = true) (ag : Ag H H' d.rd) : storeD P s H' t a x = some d := by
  revert h
  unfold storeD
  split
  · rename_i n vs id ver off _ _
    cases hg : getO H id ver with
    | none => intro h; cases h
    | some ob =>
      intro h
      simp only at h
      split at h
      · rename_i hc
        have hid : id ∈ d.rd := by
          split at h
          · split at h
            · injection h with h; subst h; exact List.mem_cons_self ..
            · cases h
          · injection h with h; subst h; exact List.mem_cons_self ..
        rw [getO_ag (ag id hid), hg]
        simp only
        rw [if_pos hc]
        split at h
        · rename_i h2
          rw [if_pos h2]
          split at h
          · rename_i h3
            injection h with h
            subst h
            have e := mvL_ag hk ag.tl
            rw [e, if_pos h3, mvOkL_ag hk ag.tl]
            congr 2
            exact hk.symm
          · cases h
        · rename_i h2
          rw [if_neg h2]
          exact h
      · cases h
  · exact id

theorem opD_ag {P : Program} {modes : FuncId → List Nat} {s : Bool} {call : FuncId → List V → Option Res} {fr : Nat → V} {H H' : Nat → Option Ob} {b : Nat} {op : Op} {d : D} (hl : locOp modes op = true) (hk : d.ok = true) (h : opD P modes s call fr H b op = some d) (ag : Ag H H' d.rd) :
    opD P modes s call fr H' b op = some d := by
  cases op <;> simp only [locOp, noH, Bool.false_eq_true] at hl <;> try exact h
  case load t a =>
    simp only [opD] at h ⊢
    obtain ⟨x, h1, h2⟩ := Option.bind_eq_some_iff.1 h
    rw [h1]
    exact loadD_ag h2 ag
  case store t a x =>
    simp only [opD] at h ⊢
    split at h
    · exact storeD_ag h hk ag
    · cases h
  case buildSlice t n ps =>
    revert h
    simp only [opD]
    split
    · split
      · split
        · split
          · split
            · exact id
            · split
              · exact id
              · rename_i cs _ _ _
                intro h
                split at h
                · rename_i h3
                  injection h with h
                  subst h
                  have e := mvL_ag hk ag
                  rw [e, if_pos h3, mvOkL_ag hk ag]
                  congr 2
                  exact hk.symm
                · cases h
          · exact id
        · exact id
      · exact id
    · exact id
  case convert src dst x =>
    simp only [opD] at h ⊢
    obtain ⟨y, h1, h2⟩ := Option.bind_eq_some_iff.1 h
    rw [h1]
    exact convD_ag h2 ag
  case slice t x lo hi mx =>
    simp only [opD] at h ⊢
    split at h
    · rename_i h1 h2 h3 h4
      exact sliceD_ag h ag
    · cases h
  case call c =>
    simp only [opD] at h ⊢
    unfold callOp at h ⊢
    split at h
    · rename_i f hc
      rw [hc] at hl
      obtain ⟨args, h1, h2⟩ := Option.bind_eq_some_iff.1 h
      rw [h1]
      rw [Option.bind_some]
      rcases args with _ | ⟨a1, _ | ⟨a2, _ | ⟨a3, args⟩⟩⟩ <;> cases f <;> simp only [Bool.false_eq_true] at hl <;> first | exact h2 | exact bltApp_ag h2 ag
    · rename_i g hc
      rw [hc] at hl
      cases g <;> simp only [Bool.false_eq_true] at hl
      case func f =>
        obtain ⟨args, h1, h2⟩ := Option.bind_eq_some_iff.1 h
        rw [h1]
        simp only [ev, Option.bind_some, calleeV] at h2 ⊢
        exact callD_ag (fun m hm => by simpa using List.all_eq_true.1 hl m hm) h2 ag
    · cases h

end Go.Proofs.Ytacfkfdnncgjcaa.Ev
end

section
set_option linter.unusedVariables false
set_option linter.unusedSimpArgs false
namespace Go.Proofs.Ytacfkfdnncgjcaa.Ev
open Go

/-! ### What an operation looks at -/
theorem mapM_congr {α β : Type} {f h : α → Option β} : ∀ {l : List α}, (∀ x, x ∈ l → f x = h x) → l.mapM f = l.mapM h
  | [], _ => rfl
  | a :: l, e => by
    rw [List.mapM_cons, List.mapM_cons, e a (List.mem_cons_self ..), mapM_congr fun x hx => e x (List.mem_cons_of_mem _ hx)]

theorem parts_congr {fr fr' : Nat → V} {ps : List (Nat × Operand)} (he : ∀ x, x ∈ ps.map (·.2) → ev fr x = ev fr' x) :
    ps.mapM (fun p => (ev fr p.2).map fun v => (p.1, v)) = ps.mapM (fun p => (ev fr' p.2).map fun v => (p.1, v)) :=
  mapM_congr fun p hp => by rw [he p.2 (List.mem_map.2 ⟨p, hp, rfl⟩)]

theorem opD_congr {P : Program} {modes : FuncId → List Nat} {s : Bool} {call : FuncId → List V → Option Res} {fr fr' : Nat → V} {H H' : Nat → Option Ob} {b : Nat} {op : Op} (he : ∀ x, x ∈ op.operands → ev fr x = ev fr' x) (hH : noH op = true ∨ H = H') :
    opD P modes s call fr H b op = opD P modes s call fr' H' b op := by
  cases op <;> simp only [noH, Bool.false_eq_true, false_or, true_or] at hH <;> (try subst hH) <;> simp only [Op.operands, List.mem_toArray, Array.mem_append, List.mem_cons, List.not_mem_nil, or_false] at he <;> simp only [opD]
  case move x => rw [he x rfl]
  case assign x => rw [he x rfl]
  case pick c x y =>
    have hif : ∀ t : Bool, ev fr (if t = true then x else y) = ev fr' (if t = true then x else y) := fun t => by
      cases t
      · exact he y (.inr (.inr rfl))
      · exact he x (.inr (.inl rfl))
    simp only [he c (.inl rfl), hif]
  case box t x => rw [he x rfl]
  case build t ps =>
    rw [parts_congr he]
  case buildSlice t n ps =>
    rw [parts_congr he]
  case load t x => rw [he x rfl]
  case store t x y => rw [he x (.inl rfl), he y (.inr rfl)]
  case nilCheck x => rw [he x rfl]
  case binOp o t x y t2 => rw [he x (.inl rfl), he y (.inr rfl)]
  case unOp o t x => rw [he x rfl]
  case convert a c x => rw [he x rfl]
  case makeInterface t x => rw [he x rfl]
  case makeFunc f fi ca =>
    unfold evL
    rw [mapM_congr (l := fi.toList) fun x hx => he x (.inl (by simpa using hx)), mapM_congr (l := ca.toList) fun x hx => he x (.inr (by simpa using hx))]
  case makeSlice t l c => rw [he l (.inl rfl), he c (.inr rfl)]
  case slice t x lo hi mx =>
    have ho : ∀ y : Option Operand, (∀ z, y = some z → ev fr z = ev fr' z) → optE fr y = optE fr' y := fun y hy => by
      cases y with
      | none => rfl
      | some z => simp only [optE, hy z rfl]
    rw [he x (.inl (.inl (.inl rfl))), ho lo fun z hz => he z (.inl (.inl (.inr (by subst hz; simp)))), ho hi fun z hz => he z (.inl (.inr (by subst hz; simp))), ho mx fun z hz => he z (.inr (by subst hz; simp))]
  case fieldAddr t x f => rw [he x rfl]
  case field t x f => rw [he x rfl]
  case indexAddr t x i => rw [he x (.inl rfl), he i (.inr rfl)]
  case index t x i => rw [he x (.inl rfl), he i (.inr rfl)]
  case extract x i => rw [he x rfl]
  case call c =>
    unfold callOp evL
    have hargs : c.args.toList.mapM (ev fr) = c.args.toList.mapM (ev fr') := mapM_congr fun x hx => he x (by simp [Call.operands]; exact .inr (by simpa using hx))
    rw [hargs]
    split
    · rfl
    · rename_i gop hg
      rw [he gop (by simp [Call.operands, hg])]
    · rfl

theorem noH_wr {P : Program} {modes : FuncId → List Nat} {s : Bool} {call : FuncId → List V → Option Res} {fr : Nat → V} {H : Nat → Option Ob} {b : Nat} {op : Op} {d : D} (h : noH op = true) (e : opD P modes s call fr H b op = some d) : d.wr = [] := by
  have one : ∀ {x : Option V}, x.bind ret = some d → d.wr = [] := fun {x} e => by
    obtain ⟨v, _, e⟩ := Option.bind_eq_some_iff.1 e
    simp only [ret, Option.some.injEq] at e; subst e; rfl
  have two : ∀ {v : V}, ret v = some d → d.wr = [] := fun {v} e => by
    simp only [ret, Option.some.injEq] at e; subst e; rfl
  cases op <;> simp only [noH, Bool.false_eq_true] at h <;> simp only [opD] at e
  case move x => exact one e
  case assign x => exact one e
  case pick c x y =>
    split at e
    · exact one e
    · cases e
  case nilCheck x => split at e <;> first | exact two e | cases e
  case binOp o t x y t2 =>
    split at e
    · exact one e
    · cases e
  case unOp o t x =>
    obtain ⟨v, _, e⟩ := Option.bind_eq_some_iff.1 e
    exact one e
  case makeInterface t x => split at e <;> first | exact two e | cases e
  case makeFunc f fi ca => split at e <;> first | exact two e | cases e
  case fieldAddr t x f => split at e <;> first | (split at e <;> first | exact two e | cases e) | cases e
  case field t x f =>
    split at e
    · split at e
      · split at e
        · exact two e
        · cases e
      · exact one e
    · cases e
  case indexAddr t x i => split at e <;> first | (split at e <;> first | exact two e | cases e) | cases e
  case index t x i =>
    split at e
    · split at e
      · obtain ⟨v, _, e⟩ := Option.bind_eq_some_iff.1 e
        exact two e
      · cases e
    · cases e
  case extract x i =>
    split at e
    · exact one e
    · cases e

theorem stepD_congr {E : Env} {s : Bool} {call : FuncId → List V → Option Res} {ops : List Oper} {i : Nat} {o : Oper} {st st' : St} (hn : st.nx = st'.nx) (hf : ∀ t, t ∈ looks ops o → st.fr t = st'.fr t) (hH : noH o.op = true ∨ st.H = st'.H) :
    stepD E s call ops i o st = stepD E s call ops i o st' := by
  have hw : wantV ops st.fr o = wantV ops st'.fr o := by
    unfold wantV
    split
    · rfl
    · rename_i j want hg
      split
      · rename_i t ht
        rw [hf t (by simp [looks, hg, ht])]
      · rfl
  have hop : opD E.P E.modes s call st.fr st.H (st.nx + 64 * i) o.op = opD E.P E.modes s call st'.fr st'.H (st'.nx + 64 * i) o.op := by
    rw [hn]
    refine opD_congr (fun x hx => ?_) hH
    cases x with
    | tmp t =>
      simp only [ev]
      rw [hf t]
      refine List.mem_append.2 (.inl (List.mem_filterMap.2 ⟨.tmp t, by simpa using hx, rfl⟩))
    | _ => rfl
  unfold stepD
  rw [hw, hop]

theorem stepD_ag {E : Env} {s : Bool} {call : FuncId → List V → Option Res} {ops : List Oper} {i : Nat} {o : Oper} {st st' : St} {d : D} (hn : st.nx = st'.nx) (hf : ∀ t, t ∈ looks ops o → st.fr t = st'.fr t) (hl : locOp E.modes o.op = true) (hk : d.ok = true)
    (e : stepD E s call ops i o st' = some d) (hH : ∀ id, id ∈ d.rd → st'.H id = st.H id) : stepD E s call ops i o st = some d := by
  have e1 : stepD E s call ops i o { st' with H := st.H } = some d := by
    unfold stepD at e ⊢
    split at e
    · rename_i hw
      have : wantV ops ({ st' with H := st.H } : St).fr o = some true := hw
      rw [this]
      exact opD_ag hl hk e hH
    · rename_i hw
      have : wantV ops ({ st' with H := st.H } : St).fr o = some false := hw
      rw [this]
      exact e
    · cases e
  rw [← e1]
  exact stepD_congr (st := st) (st' := { st' with H := st.H }) hn hf (.inr rfl)

/-! ### The state behind some of the operations -/
def dAt (ds : List D) (i : Nat) : D := ds.getD i { v := .undef }
def dstAt (ops : List Oper) (i : Nat) : Option Nat := (ops[i]?).bind (·.dst)
def stL (ops : List Oper) (ds : List D) (st : St) (L : Nat → Bool) : Nat → St
  | 0 => st
  | n + 1 => if L n then (stL ops ds st L n).app (dstAt ops n) (dAt ds n) else stL ops ds st L n

section
variable {ops : List Oper} {ds : List D} {st : St}

theorem stL_nx (L : Nat → Bool) : ∀ n, (stL ops ds st L n).nx = st.nx
  | 0 => rfl
  | n + 1 => by
    unfold stL
    split
    · exact stL_nx L n
    · exact stL_nx L n

theorem stL_fr {L M : Nat → Bool} {t : Nat} : ∀ {n : Nat}, (∀ k, k < n → dstAt ops k = some t → L k = M k) → (stL ops ds st L n).fr t = (stL ops ds st M n).fr t
  | 0, _ => rfl
  | n + 1, h => by
    have ih := stL_fr (n := n) fun k hk => h k (by omega)
    have key : ∀ (s : St), (s.app (dstAt ops n) (dAt ds n)).fr t = if dstAt ops n = some t then (dAt ds n).v else s.fr t := fun s => updO_get
    unfold stL
    by_cases e : dstAt ops n = some t
    · rw [h n (by omega) e]
      split
      · rw [key, key, if_pos e, if_pos e]
      · exact ih
    · split <;> split
      · rw [key, key, if_neg e, if_neg e]; exact ih
      · rw [key, if_neg e]; exact ih
      · rw [key, if_neg e]; exact ih
      · exact ih

theorem stL_H {L M : Nat → Bool} : ∀ {n : Nat}, (∀ k, k < n → (dAt ds k).wr ≠ [] → L k = M k) → (stL ops ds st L n).H = (stL ops ds st M n).H
  | 0, _ => rfl
  | n + 1, h => by
    have ih := stL_H (n := n) fun k hk => h k (by omega)
    have key : ∀ (s : St), (s.app (dstAt ops n) (dAt ds n)).H = appW s.H (dAt ds n).wr := fun s => rfl
    unfold stL
    by_cases e : (dAt ds n).wr = []
    · split <;> split <;> simp only [key, e, appW, ih]
    · rw [h n (by omega) e]
      split
      · rw [key, key, ih]
      · exact ih

theorem appW_get {id : Nat} : ∀ {wr : List (Nat × Option Ob)} {H : Nat → Option Ob}, id ∉ wr.map (·.1) → appW H wr id = H id
  | [], H, _ => rfl
  | (i, o) :: wr, H, h => by
    simp only [List.map_cons, List.mem_cons, not_or] at h
    rw [appW, appW_get h.2, upd_ne _ _ _ _ h.1]
theorem appW_cg {id : Nat} : ∀ {wr : List (Nat × Option Ob)} {H H' : Nat → Option Ob}, H id = H' id → appW H wr id = appW H' wr id
  | [], _, _, h => h
  | (i, o) :: wr, H, H', h => by
    rw [appW, appW]
    refine appW_cg ?_
    unfold upd
    split
    · rfl
    · exact h
theorem stL_Hat {L M : Nat → Bool} {id : Nat} : ∀ {n : Nat}, (∀ k, k < n → id ∈ wids (dAt ds k) → L k = M k) → (stL ops ds st L n).H id = (stL ops ds st M n).H id
  | 0, _ => rfl
  | n + 1, h => by
    have ih := stL_Hat (n := n) fun k hk => h k (by omega)
    have key : ∀ (s : St), (s.app (dstAt ops n) (dAt ds n)).H = appW s.H (dAt ds n).wr := fun s => rfl
    unfold stL
    by_cases e : id ∈ wids (dAt ds n)
    · rw [h n (by omega) e]
      split
      · rw [key, key]; exact appW_cg ih
      · exact ih
    · split <;> split <;> simp only [key, appW_get e, ih]
theorem appW_swap {a b : List (Nat × Option Ob)} (h : ∀ id, id ∈ a.map (·.1) → id ∉ b.map (·.1)) (H : Nat → Option Ob) : appW (appW H a) b = appW (appW H b) a := by
  funext id
  by_cases e : id ∈ a.map (·.1)
  · rw [appW_get (h id e)]
    exact appW_cg (appW_get (h id e)).symm
  · rw [appW_get (wr := a) e]
    exact appW_cg (appW_get e)

theorem stL_no {L : Nat → Bool} {n : Nat} (h : L n = false) : stL ops ds st L (n + 1) = stL ops ds st L n := by
  simp only [stL, h, Bool.false_eq_true, if_false]
theorem stL_yes {L : Nat → Bool} {n : Nat} (h : L n = true) : stL ops ds st L (n + 1) = (stL ops ds st L n).app (dstAt ops n) (dAt ds n) := by
  simp only [stL, h, if_true]

theorem stL_cg {L M : Nat → Bool} : ∀ {n : Nat}, (∀ k, k < n → L k = M k) → stL ops ds st L n = stL ops ds st M n
  | 0, _ => rfl
  | n + 1, h => by
    unfold stL
    rw [h n (by omega), stL_cg fun k hk => h k (by omega)]

theorem stL_lt {L : Nat → Bool} {i : Nat} : ∀ {n : Nat}, i ≤ n → stL ops ds st (fun k => decide (k < i) && L k) n = stL ops ds st L i
  | 0, h => by
    have : i = 0 := by omega
    subst this; rfl
  | n + 1, h => by
    by_cases e : i = n + 1
    · subst e
      unfold stL
      have ih : stL ops ds st (fun k => decide (k < n + 1) && L k) n = stL ops ds st L n := stL_cg fun k hk => by simp; omega
      simp only [ih]
      have : (decide (n < n + 1) && L n) = L n := by simp
      rw [this]
    · rw [stL_no (L := fun k => decide (k < i) && L k) (by simp; omega)]
      exact stL_lt (by omega)

theorem stL_dcg {ds' : List D} {L : Nat → Bool} : ∀ {n : Nat}, (∀ k, k < n → dAt ds k = dAt ds' k) → stL ops ds st L n = stL ops ds' st L n
  | 0, _ => rfl
  | n + 1, h => by
    unfold stL
    rw [h n (by omega), stL_dcg fun k hk => h k (by omega)]

/-- Adding an operation whose like stands behind no other of those that it is not ordered with. -/
theorem stL_add {L : Nat → Bool} {i n : Nat} (hi : i < n) (hL : L i = false) (hfr : ∀ k t, k < n → i < k → dstAt ops i = some t → dstAt ops k = some t → L k = false) (hwr : ∀ k, k < n → i < k → (dAt ds i).wr ≠ [] → (dAt ds k).wr ≠ [] → L k = false ∨ ∀ id, id ∈ wids (dAt ds k) → id ∉ wids (dAt ds i)) :
    (stL ops ds st (fun k => decide (k = i) || L k) n).fr = ((stL ops ds st L n).app (dstAt ops i) (dAt ds i)).fr ∧ (stL ops ds st (fun k => decide (k = i) || L k) n).H = ((stL ops ds st L n).app (dstAt ops i) (dAt ds i)).H := by
  have base : ∀ {m : Nat}, m ≤ i → stL ops ds st (fun k => decide (k = i) || L k) m = stL ops ds st L m := fun {m} hm => stL_cg fun k hk => by
    have : ¬ k = i := by omega
    simp [this]
  induction n with
  | zero => omega
  | succ n ih =>
    by_cases e : i = n
    · subst e
      rw [stL_yes (L := fun k => decide (k = i) || L k) (by simp), base (Nat.le_refl _), stL_no hL]
      exact ⟨rfl, rfl⟩
    · obtain ⟨h1, h2⟩ := ih (by omega) (fun k t hk => hfr k t (by omega)) (fun k hk => hwr k (by omega))
      cases hn : L n with
      | false =>
        rw [stL_no (L := fun k => decide (k = i) || L k) (by simp [hn]; omega), stL_no hn]
        exact ⟨h1, h2⟩
      | true =>
        rw [stL_yes (L := fun k => decide (k = i) || L k) (by simp [hn]), stL_yes hn]
        refine ⟨?_, ?_⟩
        · funext t
          show updO _ _ _ t = updO (updO _ _ _) _ _ t
          rw [updO_get, updO_get, updO_get, h1]
          show (if _ then _ else updO _ _ _ t) = _
          rw [updO_get]
          by_cases e1 : dstAt ops n = some t
          · rw [if_pos e1, if_pos e1]
            by_cases e2 : dstAt ops i = some t
            · have := hfr n t (by omega) (by omega) e2 e1
              rw [this] at hn; cases hn
            · rw [if_neg e2]
          · rw [if_neg e1, if_neg e1]
        · show appW _ _ = appW (appW _ _) _
          rw [h2]
          show appW (appW _ _) _ = _
          by_cases e1 : (dAt ds n).wr = []
          · rw [e1]; rfl
          · by_cases e2 : (dAt ds i).wr = []
            · rw [e2]; rfl
            · rcases hwr n (by omega) (by omega) e2 e1 with this | this
              · rw [this] at hn; cases hn
              · exact (appW_swap this _).symm
end

/-! ### What the text's order has come to -/
theorem runO_stL {E : Env} {s : Bool} {call : FuncId → List V → Option Res} {ops : List Oper} {st0 : St} : ∀ (rest : List Oper) (i : Nat) (st : St) (acc : List D) (st' : St) (ds : List D), (∀ k (hk : k < rest.length), ops[i + k]? = some rest[k]) → acc.length = i →
    st = stL ops acc st0 (fun _ => true) i → (∀ k, k < i → ∃ o, ops[k]? = some o ∧ stepD E s call ops k o (stL ops acc st0 (fun _ => true) k) = some (dAt acc k)) → runO E s call ops rest i st acc = some (st', ds) →
    ds.length = i + rest.length ∧ st' = { stL ops ds st0 (fun _ => true) (i + rest.length) with nx := st0.nx + 64 * (i + rest.length) } ∧ ∀ k, k < i + rest.length → ∃ o, ops[k]? = some o ∧ stepD E s call ops k o (stL ops ds st0 (fun _ => true) k) = some (dAt ds k)
  | [], i, st, acc, st', ds, _, hl, hst, hk, e => by
    simp only [runO, Option.some.injEq, Prod.mk.injEq] at e
    obtain ⟨rfl, rfl⟩ := e
    subst hst
    exact ⟨hl, by rw [stL_nx]; rfl, hk⟩
  | o :: rest, i, st, acc, st', ds, hops, hl, hst, hk, e => by
    simp only [runO] at e
    split at e
    · rename_i d hd
      have ho : ops[i]? = some o := hops 0 (by simp)
      have hcg : ∀ k, k < i → dAt acc k = dAt (acc ++ [d]) k := fun k hk => by
        unfold dAt
        simp only [List.getD_eq_getElem?_getD, List.getElem?_append_left (show k < acc.length by omega)]
      have hlast : dAt (acc ++ [d]) i = d := by
        unfold dAt
        rw [List.getD_eq_getElem?_getD, List.getElem?_append_right (by omega), hl, Nat.sub_self]
        rfl
      have := runO_stL rest (i + 1) (st.app o.dst d) (acc ++ [d]) st' ds (fun k hk => by
          have := hops (k + 1) (by simpa using hk)
          rw [show i + 1 + k = i + (k + 1) by omega]
          exact this) (by simp [hl]) (by
          rw [stL_yes (L := fun _ => true) rfl, ← stL_dcg hcg, ← hst, hlast]
          unfold dstAt
          rw [ho]; rfl) (fun k hk' => by
          by_cases ek : k = i
          · subst ek
            refine ⟨o, ho, ?_⟩
            rw [← stL_dcg hcg, ← hst, hlast]; exact hd
          · obtain ⟨o', h1, h2⟩ := hk k (by omega)
            refine ⟨o', h1, ?_⟩
            rw [← stL_dcg fun j hj => hcg j (by omega), ← hcg k (by omega)]; exact h2) e
      rw [List.length_cons, show i + (rest.length + 1) = i + 1 + rest.length by omega]
      exact this
    · cases e


/-! ### Orders -/
def Closed (ops : List Oper) (L : Nat → Bool) : Prop := ∀ k o, ops[k]? = some o → L k = true → ∀ e, e ∈ o.after.toList → Region.binds .any e = true → L e.on = true
def Good (ops : List Oper) (i a : Nat) : Prop := ∀ L, Closed ops L → (∀ o, ops[i]? = some o → ∀ e, e ∈ o.after.toList → Region.binds .any e = true → L e.on = true) → L a = true

theorem fold_bit {acc : List Nat} : ∀ (es : List Edge) (m a : Nat), (es.foldl (fun m e => if Region.binds .any e then (m ||| 2 ^ e.on) ||| acc.getD e.on 0 else m) m).testBit a = true →
    m.testBit a = true ∨ ∃ e, e ∈ es ∧ Region.binds .any e = true ∧ (a = e.on ∨ (acc.getD e.on 0).testBit a = true)
  | [], m, a, h => .inl h
  | e :: es, m, a, h => by
    rw [List.foldl_cons] at h
    rcases fold_bit es _ a h with h | ⟨e', h1, h2, h3⟩
    · by_cases hb : Region.binds .any e = true
      · rw [if_pos hb, Nat.testBit_or, Nat.testBit_or, Nat.testBit_two_pow, Bool.or_eq_true, Bool.or_eq_true, decide_eq_true_eq] at h
        rcases h with (h | h) | h
        · exact .inl h
        · exact .inr ⟨e, List.mem_cons_self, hb, .inl h.symm⟩
        · exact .inr ⟨e, List.mem_cons_self, hb, .inr h⟩
      · rw [if_neg hb] at h
        exact .inl h
    · exact .inr ⟨e', List.mem_cons_of_mem _ h1, h2, h3⟩
theorem ancs_step {ops : List Oper} : ∀ (rest done : List Oper) (acc : List Nat), ops = done ++ rest → acc.length = done.length → (∀ i a, (acc.getD i 0).testBit a = true → Good ops i a) →
    ∀ i a, ((rest.foldl (fun acc o => acc ++ [o.after.toList.foldl (fun m e => if Region.binds .any e then (m ||| 2 ^ e.on) ||| acc.getD e.on 0 else m) 0]) acc).getD i 0).testBit a = true → Good ops i a
  | [], done, acc, _, _, h => h
  | o :: rest, done, acc, hops, hl, h => by
    rw [List.foldl_cons]
    refine ancs_step rest (done ++ [o]) _ (by rw [hops]; simp) (by simp [hl]) fun i a ha => ?_
    by_cases e : i < acc.length
    · rw [List.getD_eq_getElem?_getD, List.getElem?_append_left e, ← List.getD_eq_getElem?_getD] at ha
      exact h i a ha
    · rw [List.getD_eq_getElem?_getD, List.getElem?_append_right (by omega)] at ha
      by_cases e2 : i = acc.length
      · subst e2
        simp only [Nat.sub_self, List.getElem?_cons_zero, Option.getD_some] at ha
        rcases fold_bit _ _ _ ha with ha | ⟨ed, hed, hb, ha⟩
        · simp at ha
        · intro L hL hi
          have ho : ops[acc.length]? = some o := by rw [hops, hl]; simp
          have hon := hi o ho ed hed hb
          rcases ha with rfl | ha
          · exact hon
          · exact h _ a ha L hL fun o' ho' => hL _ o' ho' hon
      · have : i - acc.length ≠ 0 := by omega
        rw [List.getElem?_eq_none (by simp; omega)] at ha
        simp at ha
theorem ancs_good {ops : List Oper} : ∀ i a, ((ancs ops).getD i 0).testBit a = true → Good ops i a := ancs_step ops [] [] rfl rfl fun i a h => by simp at h

theorem zipIdx_all {α : Type} {p : α × Nat → Bool} {l : List α} (h : (l.zipIdx.all p) = true) {i : Nat} (hi : i < l.length) : p (l[i], i) = true := by
  have := List.all_eq_true.1 h (l[i], i) (by
    rw [List.mem_zipIdx_iff_getElem?]
    simp [hi])
  exact this

theorem stat_back {ops : List Oper} (h : statOk ops = true) {i : Nat} {o : Oper} (ho : ops[i]? = some o) : ∀ e, e ∈ o.after.toList → Region.binds .any e = true → e.on < i := fun e he hb => by
  obtain ⟨hi, rfl⟩ := List.getElem?_eq_some_iff.1 ho
  unfold statOk at h
  rw [Bool.and_eq_true] at h
  have := zipIdx_all h.1 hi
  simp only at this
  have := List.all_eq_true.1 this e he
  simpa [hb] using this
theorem stat_apart {ops : List Oper} (h : statOk ops = true) {i k : Nat} {o p : Oper} (ho : ops[i]? = some o) (hp : ops[k]? = some p) (hk : k < i) : ((ancs ops).getD i 0).testBit k = true ∨ apartS ops p o = true := by
  obtain ⟨hi, rfl⟩ := List.getElem?_eq_some_iff.1 ho
  obtain ⟨hk', rfl⟩ := List.getElem?_eq_some_iff.1 hp
  unfold statOk at h
  rw [Bool.and_eq_true] at h
  have := zipIdx_all h.2 hi
  simp only at this
  have hkt : k < (ops.take i).length := by simp; omega
  have := zipIdx_all this hkt
  simp only [List.getElem_take, Bool.or_eq_true] at this
  exact this
/-- What two operations that no order parts have to do with each other. -/
def Clear (modes : FuncId → List Nat) (ops : List Oper) (i k : Nat) (d c : D) : Prop := locAt modes ops i = true ∧ locAt modes ops k = true ∧ (d.ok = true ∧ c.ok = true) ∧ (∀ id, id ∈ wids d → id ∉ c.rd ∧ id ∉ wids c) ∧ (∀ id, id ∈ wids c → id ∉ d.rd)
theorem disjN_iff {a b : List Nat} (h : disjN a b = true) : ∀ id, id ∈ a → id ∉ b := fun id hi => by
  have := List.all_eq_true.1 h id hi
  simpa using this
theorem pairs_apart {modes : FuncId → List Nat} {ops : List Oper} {ds : List D} (h : pairsOk modes ops ds = true) {i k : Nat} (hi : i < ds.length) (hk : k < i) : ((ancs ops).getD i 0).testBit k = true ∨ ((dAt ds i).wr = [] ∧ (dAt ds k).wr = []) ∨ noHAt ops i = true ∨ noHAt ops k = true ∨ Clear modes ops i k (dAt ds i) (dAt ds k) := by
  unfold pairsOk at h
  have := zipIdx_all h hi
  simp only at this
  have hkt : k < (ds.take i).length := by simp; omega
  have := zipIdx_all this hkt
  have e1 : dAt ds i = ds[i] := by unfold dAt; simp [hi]
  have e2 : dAt ds k = ds[k] := by unfold dAt; rw [List.getD_eq_getElem?_getD, List.getElem?_eq_getElem (show k < ds.length by omega)]; rfl
  rw [e1, e2]
  simp only [List.getElem_take, Bool.or_eq_true, Bool.and_eq_true, List.isEmpty_iff] at this
  rcases this with (((h | h) | h) | h) | ⟨h1, h2, h5, h6, h3, h4⟩
  · exact .inl h
  · exact .inr (.inl h)
  · exact .inr (.inr (.inl h))
  · exact .inr (.inr (.inr (.inl h)))
  · refine .inr (.inr (.inr (.inr ⟨h1, h2, ⟨h5, h6⟩, fun id hid => ?_, disjN_iff h4⟩)))
    have := disjN_iff h3 id hid
    rw [List.mem_append] at this
    exact ⟨fun h => this (.inl h), fun h => this (.inr h)⟩

def cnt (L : Nat → Bool) : Nat → Nat
  | 0 => 0
  | n + 1 => cnt L n + (if L n then 0 else 1)
theorem cnt_le (L : Nat → Bool) : ∀ n, cnt L n ≤ n
  | 0 => Nat.le_refl _
  | n + 1 => by
    have := cnt_le L n
    unfold cnt
    split <;> omega
theorem cnt_zero {L : Nat → Bool} : ∀ {n : Nat}, cnt L n = 0 → ∀ k, k < n → L k = true
  | 0, _, k, hk => by omega
  | n + 1, h, k, hk => by
    unfold cnt at h
    split at h
    · rename_i hn
      by_cases e : k = n
      · rw [e]; exact hn
      · exact cnt_zero (by omega) k (by omega)
    · omega
theorem cnt_cg {L M : Nat → Bool} : ∀ {n : Nat}, (∀ k, k < n → L k = M k) → cnt L n = cnt M n
  | 0, _ => rfl
  | n + 1, h => by
    unfold cnt
    rw [h n (by omega), cnt_cg fun k hk => h k (by omega)]
theorem cnt_add {L : Nat → Bool} {i : Nat} (hL : L i = false) : ∀ {n : Nat}, i < n → cnt (fun k => decide (k = i) || L k) n + 1 = cnt L n
  | 0, h => by omega
  | n + 1, h => by
    by_cases e : i = n
    · subst e
      have : cnt (fun k => decide (k = i) || L k) i = cnt L i := cnt_cg fun k hk => by
        have : ¬ k = i := by omega
        simp [this]
      simp only [cnt, this, hL, decide_true, Bool.true_or, if_true, Bool.false_eq_true, if_false]
    · have ih := cnt_add hL (n := n) (by omega)
      have : ¬ n = i := fun h => e h.symm
      simp only [cnt, this, decide_false, Bool.false_or]
      omega

section
variable {B : Beg}

/-- A region that draws its order. -/
theorem any_sound {E : Env} {call : FuncId → List V → Option Res} (hc : ∀ f vals r, call f vals = some r → CallOk E.P f vals r) {ops : Array Oper} (hd : ∀ o, o ∈ ops.toList → ∀ t, o.dst = some t → t < B.nt) {st : St} {ds : List D} (hlen : ds.length = ops.size)
    (hev : ∀ k, k < ops.size → ∃ o, ops.toList[k]? = some o ∧ stepD E B.strict call ops.toList k o (stL ops.toList ds st (fun _ => true) k) = some (dAt ds k)) (hst : statOk ops.toList = true) (hpr : pairsOk E.modes ops.toList ds = true) {Q : Exit → Act → World → Prop}
    (hQ : ∀ a w g, SR B (stL ops.toList ds st (fun _ => true) ops.size).fr (stL ops.toList ds st (fun _ => true) ops.size).H (fun id => id < st.nx + 64 * ops.size) a w g → Q .normal a w) :
    ∀ (fuel : Nat) (listed : Array Bool) (a : Act) (w : World) (g : Gh), listed.size = ops.size → Closed ops.toList (fun k => listed.getD k false) → cnt (fun k => listed.getD k false) ops.size ≤ fuel →
      SR B (stL ops.toList ds st (fun k => listed.getD k false) ops.size).fr (stL ops.toList ds st (fun k => listed.getD k false) ops.size).H (fun id => id < st.nx ∨ ∃ k, k < ops.size ∧ listed.getD k false = true ∧ st.nx + 64 * k ≤ id ∧ id < st.nx + 64 * k + 64) a w g →
      wpAny E.P .any ops Q fuel listed a w := by
  -- all are done
  have over : ∀ (listed : Array Bool) (a : Act) (w : World) (g : Gh), (∀ k, k < ops.size → listed.getD k false = true) →
      SR B (stL ops.toList ds st (fun k => listed.getD k false) ops.size).fr (stL ops.toList ds st (fun k => listed.getD k false) ops.size).H (fun id => id < st.nx ∨ ∃ k, k < ops.size ∧ listed.getD k false = true ∧ st.nx + 64 * k ≤ id ∧ id < st.nx + 64 * k + 64) a w g → Q .normal a w := fun listed a w g hall s => by
    have e : stL ops.toList ds st (fun k => listed.getD k false) ops.size = stL ops.toList ds st (fun _ => true) ops.size := stL_cg fun k hk => hall k hk
    rw [e] at s
    exact hQ a w g ⟨s.df, s.sz, s.sl, fun id h => by
      rcases s.ids id h with h | ⟨k, hk, _, h1, h2⟩ <;> omega, s.m, s.kp⟩
  have allOf : ∀ (listed : Array Bool), listed.size = ops.size → Region.ready .any ops listed = [] → ∀ k, k < ops.size → listed.getD k false = true := fun listed hsz hr k => by
    induction k using Nat.strongRecOn with
    | _ k ih =>
      intro hk
      cases hl : listed.getD k false with
      | true => rfl
      | false =>
        have hin : k ∈ Region.ready .any ops listed := by
          rw [mem_ready]
          refine ⟨?_, ops[k], Array.getElem?_eq_getElem hk, fun e he hb => ?_⟩
          · have hk' : k < listed.size := by omega
            simp only [Array.getD, hk', dif_pos] at hl ⊢
            exact hl
          · have hlt := stat_back hst (i := k) (o := ops[k]) (by rw [Array.getElem?_toList]; exact Array.getElem?_eq_getElem hk) e (by simpa using he) hb
            exact ih e.on hlt (by omega)
        rw [hr] at hin
        cases hin
  intro fuel
  induction fuel with
  | zero =>
    intro listed a w g hsz hcl hcn s
    have hall := cnt_zero (show cnt (fun k => listed.getD k false) ops.size = 0 by omega)
    refine ⟨?_, over listed a w g hall s⟩
    rw [List.eq_nil_iff_forall_not_mem]
    intro j hj
    obtain ⟨h1, o, h2, _⟩ := mem_ready.1 hj
    have hjs : j < ops.size := (Array.getElem?_eq_some_iff.1 h2).1
    have hj' : j < listed.size := by omega
    have := hall j hjs
    simp only [Array.getD, hj', dif_pos] at h1 this
    rw [h1] at this; cases this
  | succ fuel ih =>
    intro listed a w g hsz hcl hcn s
    refine ⟨fun hr => over listed a w g (allOf listed hsz hr) s, fun i hi => ?_⟩
    obtain ⟨h1, o, ho, hedges⟩ := mem_ready.1 hi
    have his : i < ops.size := (Array.getElem?_eq_some_iff.1 ho).1
    have hil : i < listed.size := by omega
    have hLi : listed.getD i false = false := by
      simp only [Array.getD, hil, dif_pos] at h1 ⊢; exact h1
    have hol : ops.toList[i]? = some o := by rw [Array.getElem?_toList]; exact ho
    -- the ancestors are done, what stands behind is not
    have anc1 : ∀ k, ((ancs ops.toList).getD i 0).testBit k = true → listed.getD k false = true := fun k hk => ancs_good i k hk (fun k => listed.getD k false) hcl fun o' ho' e he hb => by
      rw [hol] at ho'
      injection ho' with ho'
      subst ho'
      exact hedges e (by simpa using he) hb
    have anc2 : ∀ k, ((ancs ops.toList).getD k 0).testBit i = true → listed.getD k false = false := fun k hk => by
      cases hl : listed.getD k false with
      | false => rfl
      | true =>
        have : listed.getD i false = true := ancs_good k i hk (fun k => listed.getD k false) hcl fun o' ho' => hcl k o' ho' hl
        rw [hLi] at this; cases this
    have dsts : ∀ k p, ops.toList[k]? = some p → dstAt ops.toList k = p.dst := fun k p hp => by unfold dstAt; rw [hp]; rfl
    -- a pair that is not apart
    have pair : ∀ k, k < ops.size → (∀ p, ops.toList[k]? = some p → k < i → apartS ops.toList p o = false) → (∀ p, ops.toList[k]? = some p → i < k → apartS ops.toList o p = false) → k ≠ i → listed.getD k false = decide (k < i) := fun k hk q1 q2 hne => by
      have hp : ops.toList[k]? = some ops[k] := by rw [Array.getElem?_toList]; exact Array.getElem?_eq_getElem hk
      rcases Nat.lt_or_ge k i with hlt | hge
      · rcases stat_apart hst hol hp hlt with h | h
        · rw [anc1 k h]; simp [hlt]
        · rw [q1 _ hp hlt] at h; cases h
      · have hlt : i < k := by omega
        rcases stat_apart hst hp hol hlt with h | h
        · rw [anc2 k h]; simp; omega
        · rw [q2 _ hp hlt] at h; cases h
    obtain ⟨o', ho', hstep⟩ := hev i his
    rw [hol] at ho'
    injection ho' with ho'
    subst ho'
    -- it comes to the same here
    have hstep' : stepD E B.strict call ops.toList i o { stL ops.toList ds st (fun k => listed.getD k false) ops.size with nx := st.nx } = some (dAt ds i) := by
      have hfr : ∀ t, t ∈ looks ops.toList o → ({ stL ops.toList ds st (fun k => listed.getD k false) ops.size with nx := st.nx } : St).fr t = (stL ops.toList ds st (fun _ => true) i).fr t := fun t ht => by
        show (stL ops.toList ds st (fun k => listed.getD k false) ops.size).fr t = _
        rw [← stL_lt (L := fun _ => true) (n := ops.size) (Nat.le_of_lt his)]
        refine stL_fr fun k hk hdk => ?_
        simp only [Bool.and_true]
        by_cases e : k = i
        · subst e; rw [hLi]; simp
        · refine pair k hk (fun p hp _ => ?_) (fun p hp _ => ?_) e
          · rw [dsts k p hp] at hdk
            unfold apartS
            simp only [hdk]
            have : (looks ops.toList o).contains t = true := by simpa using ht
            rw [this]; rfl
          · rw [dsts k p hp] at hdk
            unfold apartS
            simp only [hdk]
            have : (looks ops.toList o).contains t = true := by simpa using ht
            rw [this]
            simp
      have nok : ∀ k, k < ops.size → (dAt ds k).wr ≠ [] → noHAt ops.toList k ≠ true := fun k hk hwr h => by
        obtain ⟨p, hp, hs⟩ := hev k hk
        unfold noHAt at h
        rw [hp] at h
        unfold stepD at hs
        split at hs
        · exact hwr (noH_wr h hs)
        · simp only [ret, Option.some.injEq] at hs
          rw [← hs] at hwr; exact hwr rfl
        · cases hs
      cases hno : noH o.op with
      | true =>
        rw [← hstep]
        exact stepD_congr (by rw [stL_nx]) hfr (.inl hno)
      | false =>
        have noi : noHAt ops.toList i = false := by unfold noHAt; rw [hol]; exact hno
        -- whoever writes what it reads stands on the same side
        have side : ∀ k, k < ops.size → (dAt ds k).wr ≠ [] → k ≠ i → listed.getD k false = decide (k < i) ∨ (locAt E.modes ops.toList i = true ∧ (dAt ds i).ok = true ∧ ∀ id, id ∈ wids (dAt ds k) → id ∉ (dAt ds i).rd) := fun k hk hwr e => by
          rcases Nat.lt_or_ge k i with hlt | hge
          · rcases pairs_apart hpr (by omega) hlt with h | h | h | h | h
            · rw [anc1 k h]; simp [hlt]
            · exact absurd h.2 hwr
            · rw [noi] at h; cases h
            · exact absurd h (nok k hk hwr)
            · exact .inr ⟨h.1, h.2.2.1.1, h.2.2.2.2⟩
          · rcases pairs_apart hpr (by omega : k < ds.length) (by omega : i < k) with h | h | h | h | h
            · rw [anc2 k h]; left; simp; omega
            · exact absurd h.1 hwr
            · exact absurd h (nok k hk hwr)
            · rw [noi] at h; cases h
            · exact .inr ⟨h.2.1, h.2.2.1.2, fun id hid => (h.2.2.2.1 id hid).1⟩
        cases hloc : (locAt E.modes ops.toList i && (dAt ds i).ok) with
        | true =>
          rw [Bool.and_eq_true] at hloc
          obtain ⟨hloc, hok⟩ := hloc
          have hlo : locOp E.modes o.op = true := by unfold locAt at hloc; rw [hol] at hloc; exact hloc
          refine stepD_ag (by rw [stL_nx]) hfr hlo hok hstep fun id hid => ?_
          show _ = (stL ops.toList ds st (fun k => listed.getD k false) ops.size).H id
          rw [← stL_lt (L := fun _ => true) (n := ops.size) (Nat.le_of_lt his)]
          refine (stL_Hat fun k hk hwk => ?_).symm
          simp only [Bool.and_true]
          by_cases e : k = i
          · subst e; rw [hLi]; simp
          · rcases side k hk (fun h => by unfold wids at hwk; rw [h] at hwk; cases hwk) e with h | h
            · exact h
            · exact absurd hid (h.2.2 id hwk)
        | false =>
          rw [← hstep]
          refine stepD_congr (by rw [stL_nx]) hfr (.inr ?_)
          show (stL ops.toList ds st (fun k => listed.getD k false) ops.size).H = _
          rw [← stL_lt (L := fun _ => true) (n := ops.size) (Nat.le_of_lt his)]
          refine stL_H fun k hk hwr => ?_
          simp only [Bool.and_true]
          by_cases e : k = i
          · subst e; rw [hLi]; simp
          · rcases side k hk hwr e with h | h
            · exact h
            · rw [h.1, h.2.1] at hloc; cases hloc
    -- with it done
    have hadd := stL_add (ops := ops.toList) (ds := ds) (st := st) (L := fun k => listed.getD k false) (n := ops.size) his hLi (fun k t hk hik e1 e2 => by
        have hp : ops.toList[k]? = some ops[k] := by rw [Array.getElem?_toList]; exact Array.getElem?_eq_getElem hk
        rcases stat_apart hst hp hol hik with h | h
        · exact anc2 k h
        · rw [dsts i o hol] at e1
          rw [dsts k _ hp] at e2
          unfold apartS at h
          simp only [e1, e2] at h
          simp at h) (fun k hk hik e1 e2 => by
        rcases pairs_apart hpr (by omega : k < ds.length) hik with h | h | h | h | h
        · exact .inl (anc2 k h)
        · exact absurd h.1 e2
        · exfalso
          obtain ⟨p, hp, hs⟩ := hev k hk
          unfold noHAt at h
          rw [hp] at h
          unfold stepD at hs
          split at hs
          · exact e2 (noH_wr h hs)
          · simp only [ret, Option.some.injEq] at hs
            rw [← hs] at e2; exact e2 rfl
          · cases hs
        · exfalso
          unfold noHAt at h
          rw [hol] at h
          unfold stepD at hstep
          split at hstep
          · exact e1 (noH_wr h hstep)
          · simp only [ret, Option.some.injEq] at hstep
            rw [← hstep] at e1; exact e1 rfl
          · cases hstep
        · exact .inr fun id hid => (h.2.2.2.1 id hid).2)
    have hset : ∀ k, (listed.setIfInBounds i true).getD k false = (decide (k = i) || listed.getD k false) := fun k => by
      by_cases e : k = i
      · subst e; simp [hil]
      · rw [getD_set_ne false (fun h => e h.symm)]; simp [e]
    have hfun : (fun k => (listed.setIfInBounds i true).getD k false) = fun k => decide (k = i) || listed.getD k false := funext hset
    refine step_sound hc hd (st := { stL ops.toList ds st (fun k => listed.getD k false) ops.size with nx := st.nx }) ho hstep' s (fun id l1 l2 => ?_) (hi' := fun id => id < st.nx ∨ ∃ k, k < ops.size ∧ (listed.setIfInBounds i true).getD k false = true ∧ st.nx + 64 * k ≤ id ∧ id < st.nx + 64 * k + 64) (fun id h => ?_) fun a' w' g' s' => ?_
    · cases hj : g.J id with
      | none => rfl
      | some x =>
        have := s.ids id (by rw [hj]; simp)
        simp only at l1 l2
        rcases this with h | ⟨k, hk, hlk, h1, h2⟩
        · omega
        · have : k = i := by omega
          subst this
          rw [hLi] at hlk; cases hlk
    · rcases h with (h | ⟨k, hk, hlk, h1, h2⟩) | h
      · exact .inl h
      · exact .inr ⟨k, hk, by rw [hset, hlk]; simp, h1, h2⟩
      · exact .inr ⟨i, his, by rw [hset]; simp, h.1, h.2⟩
    · refine ih (listed.setIfInBounds i true) a' w' g' (by simp [hsz]) ?_ ?_ ?_
      · rw [hfun]
        intro k o' hk' hLk e he hb
        simp only [Bool.or_eq_true, decide_eq_true_eq] at hLk ⊢
        rcases hLk with hLk | hLk
        · subst hLk
          rw [hol] at hk'
          injection hk' with hk'
          subst hk'
          exact .inr (hedges e (by simpa using he) hb)
        · exact .inr (hcl k o' hk' hLk e he hb)
      · rw [hfun]
        have := cnt_add (L := fun k => listed.getD k false) hLi his
        omega
      · rw [hfun]
        obtain ⟨e1, e2⟩ := hadd
        have e3 : dstAt ops.toList i = o.dst := dsts i o hol
        rw [e1, e2, e3]
        exact ⟨s'.df, s'.sz, s'.sl, fun id h => by
          rcases s'.ids id h with h | ⟨k, hk, hlk, h1, h2⟩
          · exact .inl h
          · exact .inr ⟨k, hk, hlk, h1, h2⟩, s'.m, s'.kp⟩
end

end Go.Proofs.Ytacfkfdnncgjcaa.Ev
end
