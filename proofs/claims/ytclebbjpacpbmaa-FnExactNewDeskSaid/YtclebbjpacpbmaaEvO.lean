/- The abstract interpreter: what comes back from a call. Conditions: none. -/
import Derived.Test.YtclebbjpacpbmaaEvN
set_option linter.unusedVariables false
set_option linter.unusedSimpArgs false
namespace Go.Proofs.Ytclebbjpacpbmaa.Ev
open Go

/-- Objects that were handed over: what is written of them. -/
structure Ent (w' : World) (S1 : Nat → Prop) (H : Nat → Option Ob) (g : Gh) (own fo : List Nat) (l : List (Nat × Option Ob)) (G : Nat → List Nat) : Prop where
  ent : ∀ x, x ∈ l → (x.2 = none ∧ x.1 ∈ own) ∨ ∃ (ob : Ob) (cs : List V) (jo : Option Nat), x.2 = some { ob with cells := cs } ∧ H x.1 = some ob ∧ x.1 ∈ own ∧ g.J x.1 = some jo ∧ ∀ J' H', OR w' S1 J' H' { ob with cells := cs } jo (G x.1)
  nd : ∀ i, i ∈ own → (G i).Nodup ∧ ∀ c, c ∈ G i → c ∈ fo
  dj : ∀ i j, i ∈ own → j ∈ own → i ≠ j → ∀ c, c ∈ G i → c ∉ G j

section
variable {B : Beg} {H : Nat → Option Ob} {w w' : World} {g : Gh} {P : Program} {b : Nat} {S1 : Nat → Prop}

theorem Ent.nil (own fo : List Nat) : Ent w' S1 H g own fo [] (fun _ => []) := ⟨fun x hx => (by cases hx), fun i _ => ⟨List.nodup_nil, fun c hc => (by cases hc)⟩, fun i j _ _ _ c hc => (by cases hc)⟩

theorem Ent.join {o1 o2 f1 f2 : List Nat} {l1 l2 : List (Nat × Option Ob)} {G1 G2 : Nat → List Nat} (e1 : Ent w' S1 H g o1 f1 l1 G1) (e2 : Ent w' S1 H g o2 f2 l2 G2) (ho : ∀ a, a ∈ o1 → a ∉ o2) (hf : ∀ a, a ∈ f1 → a ∉ f2) :
    Ent w' S1 H g (o1 ++ o2) (f1 ++ f2) (l1 ++ l2) (fun i => if i ∈ o1 then G1 i else G2 i) where
  ent := fun x hx => by
    rcases List.mem_append.1 hx with hx | hx
    · rcases e1.ent x hx with ⟨h1, h2⟩ | ⟨ob, cs, jo, h1, h2, h3, h4, h5⟩
      · exact .inl ⟨h1, List.mem_append.2 (.inl h2)⟩
      · exact .inr ⟨ob, cs, jo, h1, h2, List.mem_append.2 (.inl h3), h4, by simpa only [h3, if_true] using h5⟩
    · rcases e2.ent x hx with ⟨h1, h2⟩ | ⟨ob, cs, jo, h1, h2, h3, h4, h5⟩
      · exact .inl ⟨h1, List.mem_append.2 (.inr h2)⟩
      · have : x.1 ∉ o1 := fun h => ho _ h h3
        exact .inr ⟨ob, cs, jo, h1, h2, List.mem_append.2 (.inr h3), h4, by simpa only [this, if_false] using h5⟩
  nd := fun i hi => by
    by_cases h : i ∈ o1
    · simp only [h, if_true]
      exact ⟨(e1.nd i h).1, fun c hc => List.mem_append.2 (.inl ((e1.nd i h).2 c hc))⟩
    · simp only [h, if_false]
      have h2 : i ∈ o2 := (List.mem_append.1 hi).resolve_left h
      exact ⟨(e2.nd i h2).1, fun c hc => List.mem_append.2 (.inr ((e2.nd i h2).2 c hc))⟩
  dj := fun i j hi hj hne c hc hc' => by
    by_cases h : i ∈ o1 <;> by_cases h2 : j ∈ o1 <;> simp only [h, h2, if_true, if_false] at hc hc'
    · exact e1.dj i j h h2 hne c hc hc'
    · exact hf c ((e1.nd i h).2 c hc) ((e2.nd j ((List.mem_append.1 hj).resolve_left h2)).2 c hc')
    · exact hf c ((e1.nd j h2).2 c hc') ((e2.nd i ((List.mem_append.1 hi).resolve_left h)).2 c hc)
    · exact e2.dj i j ((List.mem_append.1 hi).resolve_left h) ((List.mem_append.1 hj).resolve_left h2) hne c hc hc'

theorem Ent.gone {own fo : List Nat} {l : List (Nat × Option Ob)} {G : Nat → List Nat} (e : Ent w' S1 H g own fo l G) : Ent w' S1 H g own fo ((own.map fun i => (i, none)) ++ l) G where
  ent := fun x hx => by
    rcases List.mem_append.1 hx with hx | hx
    · obtain ⟨i, hi, rfl⟩ := List.mem_map.1 hx
      exact .inl ⟨rfl, hi⟩
    · exact e.ent x hx
  nd := e.nd
  dj := e.dj

theorem backO_sound {a o : V} {x : Value} {l : List (Nat × Option Ob)} {fo : List Nat} (hv : VR w g.S g.J H a x) (ho : isRefV a = true → ∃ u, ownX H a = some u) (e : backO H a o = some l) (hc : OutC w' S1 o x fo) (hn : fo.Nodup) :
    ∃ G, Ent w' S1 H g (ownI H a) fo l G := by
  unfold backO at e
  split at e
  · rename_i id ver off len sz n cs
    split at e
    · rename_i ob hH
      split at e
      · rename_i hcond
        obtain ⟨rfl, hcl⟩ := hcond
        simp only [Option.some.injEq] at e
        subst e
        obtain ⟨u, hu⟩ := ho rfl
        unfold ownX at hu
        simp only at hu
        split at hu
        · rename_i ob' hob'
          obtain ⟨hH', hver⟩ := getO_some hob'
          rw [hH] at hH'
          injection hH' with hH'
          subst hH'
          split at hu
          · rename_i hlen
            have hoff : off = 0 := by
              simp only [depth, expN, hob'] at hu
              split at hu
              · rename_i hc; exact hc.2.1
              · cases hu
            subst hoff
            have hmem : id ∈ ownI H (.sl id ver 0 len) := by
              simp only [ownI, depth, eidN, hob']
              exact List.mem_cons_self ..
            obtain ⟨A, c, rfl, hj, hlc, hcm, hA0, hp⟩ := hv.sl_inv
            rcases hc with ⟨h, _⟩ | ⟨_, ht⟩
            · cases h
            · refine ⟨fun i => if i = id then fo else [], ⟨fun y hy => ?_, fun i hi => ?_, fun i j hi hj hne c hc hc' => ?_⟩⟩
              · simp only [List.mem_singleton] at hy
                subst hy
                refine .inr ⟨ob, cs, ?_⟩
                rcases (hp ob hH).2 hver with ⟨hc0, hl0, hj0⟩ | ⟨hc1, blk, hJ, rfl, hcap⟩
                · refine ⟨none, rfl, hH, hmem, hj0 rfl, fun J' H' => ?_⟩
                  simp only [if_true]
                  cases ht with
                  | pr h => cases h
                  | unil => exact ⟨rfl, rfl⟩
                  | uniq fp hb hz hl hc' hn' hm hc1 h h1 => omega
                · refine ⟨some blk, rfl, hH, hmem, hJ, fun J' H' => ?_⟩
                  simp only [if_true]
                  cases ht with
                  | pr h => cases h
                  | unil => omega
                  | uniq fp hb hz hl hc' hn' hm hc1 h h1 =>
                    exact ⟨_, _, _, fp, hb, hz, by rw [hl]; exact Nat.le_trans (Nat.mul_le_mul_right _ hn') hc', fun k hk => .inr (h k hk), h1, rfl⟩
              · by_cases h : i = id
                · simp only [h, if_true]; exact ⟨hn, fun c hc => hc⟩
                · simp only [h, if_false]; exact ⟨List.nodup_nil, fun c hc => by cases hc⟩
              · by_cases h : i = id
                · have h2 : ¬ j = id := fun h2 => hne (h.trans h2.symm)
                  simp only [h2, if_false] at hc'; cases hc'
                · simp only [h, if_false] at hc; cases hc
          · cases hu
        · cases hu
      · cases e
    · cases e
  · cases e
  · simp only [Option.some.injEq] at e
    subst e
    exact ⟨_, .nil _ _⟩

theorem backL_sound : ∀ {as os : List V} {xs : Nat → Value} {l : List (Nat × Option Ob)} {fo : Nat → List Nat}, backL H as os = some l → (∀ k (hk : k < as.length), VR w g.S g.J H as[k] (xs k)) →
    (∀ k (hk : k < as.length), isRefV as[k] = true → ∃ u, ownX H as[k] = some u) → (∀ k (hk : k < os.length), OutC w' S1 os[k] (xs k) (fo k)) → ((List.range os.length).flatMap fo).Nodup →
    (as.flatMap fun c => if isRefV c = true then ownI H c else eidN H depth c).Nodup → ∃ G, Ent w' S1 H g (as.flatMap fun c => if isRefV c = true then ownI H c else eidN H depth c) ((List.range os.length).flatMap fo) l G
  | [], [], xs, l, fo, e, _, _, _, _, _ => by
    simp only [backL, Option.some.injEq] at e
    subst e
    exact ⟨_, .nil _ _⟩
  | a :: as, [], _, _, _, e, _, _, _, _, _ => by simp [backL] at e
  | [], o :: os, _, _, _, e, _, _, _, _, _ => by simp [backL] at e
  | a :: as, o :: os, xs, l, fo, e, hv, ho, hc, hn, hd => by
    simp only [backL] at e
    split at e
    · rename_i l1 l2 e1 e2
      simp only [Option.some.injEq] at e
      subst e
      have hsplit : (List.range (o :: os).length).flatMap fo = fo 0 ++ (List.range os.length).flatMap fun k => fo (k + 1) := by
        rw [List.length_cons, List.range_succ_eq_map, List.flatMap_cons, List.flatMap_map]
      rw [hsplit, List.nodup_append] at hn
      rw [List.flatMap_cons, List.nodup_append] at hd
      obtain ⟨G1, t1⟩ := backO_sound (hv 0 (by simp)) (ho 0 (by simp)) e1 (hc 0 (by simp)) hn.1
      obtain ⟨G2, t2⟩ := backL_sound (xs := fun k => xs (k + 1)) (fo := fun k => fo (k + 1)) e2 (fun k hk => hv (k + 1) (by simpa using hk)) (fun k hk => ho (k + 1) (by simpa using hk)) (fun k hk => hc (k + 1) (by simpa using hk)) hn.2.1 hd.2.1
      have t1' : ∃ G, Ent w' S1 H g (if isRefV a = true then ownI H a else eidN H depth a) (fo 0) l1 G := by
        by_cases h : isRefV a = true
        · exact ⟨G1, by rw [if_pos h]; exact t1⟩
        · have hl1 : l1 = [] := by
            unfold backO at e1
            split at e1
            · exact absurd rfl h
            · exact absurd rfl h
            · simpa using e1.symm
          subst hl1
          exact ⟨_, .nil _ _⟩
      obtain ⟨G1', t1'⟩ := t1'
      rw [hsplit, List.flatMap_cons]
      exact ⟨_, t1'.join t2 (fun x hx hx' => hd.2.2 x hx x hx' rfl) fun x hx hx' => hn.2.2 x hx x hx' rfl⟩
    · cases e

theorem back1_sound {md : Nat} {a o : V} {p : AP} {x : Value} {l : List (Nat × Option Ob)} {fo : List Nat} (hp : prepA H md a = some p) (hv : VR w g.S g.J H a x) (hd : p.own.Nodup)
    (e : (if p.back then (match a, o with
        | .agg cs, .agg os => backL H cs os
        | a, o => backO H a o) else some []) = some l) (hc : OutA w' S1 o x fo) (hn : fo.Nodup) : ∃ G, Ent w' S1 H g p.own fo l G := by
  have none : p.back = false → ∃ G, Ent w' S1 H g p.own fo l G := fun hb => by
    rw [hb] at e
    simp only [Bool.false_eq_true, if_false, Option.some.injEq] at e
    subst e
    exact ⟨_, .nil _ _⟩
  have share : ∀ {q : AP}, ((purN H depth a).map fun v => ({ v, rd := idsN H depth a } : AP)) = some q → p = q → ∃ G, Ent w' S1 H g p.own fo l G := fun {q} hq e => by
    subst e
    obtain ⟨v, _, rfl⟩ := Option.map_eq_some_iff.1 hq
    exact none rfl
  unfold prepA at hp
  simp only at hp
  split at hp
  · split at hp
    · rename_i cs
      split at hp
      · rename_i cs' hcs'
        simp only [Option.some.injEq] at hp
        subst hp
        simp only [if_true] at e
        split at e
        · rename_i cs2 os heq
          injection heq with heq
          subst heq
          rcases hc with ⟨os', arr, fos, ho, rfl, hl, hcc, rfl⟩ | ⟨_, hna, _⟩ | ⟨⟨sz, n, cs3, h⟩, _⟩
          · injection ho with ho
            subst ho
            obtain ⟨arr', harr, hl', hvc, _⟩ := hv.agg_inv
            injection harr with harr
            subst harr
            exact backL_sound e hvc (fun k hk hr => by
              have hm := mapM_at hcs' k hk (by rw [mapM_len hcs']; exact hk)
              simp only [hr, if_true] at hm
              exact ⟨_, hm⟩) hcc hn hd
          · exact absurd rfl (hna _)
          · cases h
        · have : l = [] := by
            simp only [backO, Option.some.injEq] at e
            exact e.symm
          subst this
          exact ⟨_, .nil _ _⟩
      · cases hp
    · rename_i hna
      split at hp
      · rename_i hr
        obtain ⟨v, hv', rfl⟩ := Option.map_eq_some_iff.1 hp
        simp only [if_true] at e
        have e' : backO H a o = some l := by
          split at e
          · exact absurd rfl (hna _)
          · exact e
        rcases hc with ⟨os', arr, fos, rfl, _⟩ | hc
        · exfalso
          unfold isRefV at hr
          split at hr
          · simp [backO] at e'
          · cases hr
        · exact backO_sound hv (fun _ => ⟨v, hv'⟩) e' hc hn
      · exact share hp rfl
  · split at hp
    · split at hp
      · simp only [Option.some.injEq] at hp
        subst hp
        exact none rfl
      · exact share hp rfl
    · exact share hp rfl
  · exact share hp rfl

theorem backW_sound : ∀ {as : List V} {ms : List Nat} {ps : List AP} {os : List V} {xs : Nat → Value} {l : List (Nat × Option Ob)} {fo : Nat → List Nat}, prepL H ms as = some ps → backW H as ps os = some l →
    (∀ k (hk : k < as.length), VR w g.S g.J H as[k] (xs k)) → (∀ k (hk : k < os.length), OutA w' S1 os[k] (xs k) (fo k)) → ((List.range os.length).flatMap fo).Nodup → (ps.flatMap (·.own)).Nodup →
    ∃ G, Ent w' S1 H g (ps.flatMap (·.own)) ((List.range os.length).flatMap fo) l G
  | [], ms, ps, os, xs, l, fo, hp, e, _, _, _, _ => by
    simp only [prepL, Option.some.injEq] at hp
    subst hp
    simp only [backW, Option.some.injEq] at e
    subst e
    exact ⟨_, .nil _ _⟩
  | a :: as, ms, ps, os, xs, l, fo, hp, e, hv, hc, hn, hd => by
    simp only [prepL] at hp
    split at hp
    · rename_i p qs h1 h2
      injection hp with hp
      subst hp
      simp only [backW] at e
      split at e
      · rename_i x y hx hy
        simp only [Option.some.injEq] at e
        subst e
        rw [List.flatMap_cons, List.nodup_append] at hd
        rw [List.flatMap_cons]
        cases os with
        | nil =>
          obtain ⟨G1, t1⟩ := back1_sound (w' := w') (S1 := S1) (fo := []) h1 (hv 0 (by simp)) hd.1 hx (.inr (.inl ⟨rfl, fun cs h => (by cases h), rfl⟩)) List.nodup_nil
          obtain ⟨G2, t2⟩ := backW_sound (os := []) (xs := fun k => xs (k + 1)) (fo := fo) h2 hy (fun k hk => hv (k + 1) (by simpa using hk)) (fun k hk => by simp at hk) List.nodup_nil hd.2.1
          exact ⟨_, t1.gone.join t2 (fun x hx hx' => hd.2.2 x hx x hx' rfl) fun x hx => by cases hx⟩
        | cons o os =>
          have hsplit : (List.range (o :: os).length).flatMap fo = fo 0 ++ (List.range os.length).flatMap fun k => fo (k + 1) := by
            rw [List.length_cons, List.range_succ_eq_map, List.flatMap_cons, List.flatMap_map]
          rw [hsplit] at hn ⊢
          rw [List.nodup_append] at hn
          obtain ⟨G1, t1⟩ := back1_sound h1 (hv 0 (by simp)) hd.1 hx (hc 0 (by simp)) hn.1
          obtain ⟨G2, t2⟩ := backW_sound (xs := fun k => xs (k + 1)) (fo := fun k => fo (k + 1)) h2 hy (fun k hk => hv (k + 1) (by simpa using hk)) (fun k hk => hc (k + 1) (by simpa using hk)) hn.2.1 hd.2.1
          exact ⟨_, t1.gone.join t2 (fun x hx hx' => hd.2.2 x hx x hx' rfl) fun x hx hx' => hn.2.2 x hx x hx' rfl⟩
      · cases e
    · cases hp
end

end Go.Proofs.Ytclebbjpacpbmaa.Ev
