/- The abstract interpreter: calls. Conditions: none. -/
import Derived.Test.YtclebbjpacpbmaaEvO
set_option linter.unusedVariables false
set_option linter.unusedSimpArgs false
namespace Go.Proofs.Ytclebbjpacpbmaa.Ev
open Go

theorem OutC.strict {w : World} {S S' : Nat → Prop} {o : V} {z : Value} {fo : List Nat} (h : OutC w S o z fo) {k : Nat} (ht : treeN k o = true) : OutC w S' o z fo :=
  h.imp (fun h => h) fun h => ⟨h.1, h.2.strict S' ht⟩
theorem OutA.strict {w : World} {S S' : Nat → Prop} {o : V} {z : Value} {fo : List Nat} (h : OutA w S o z fo) (ht : treeN depth o = true) : OutA w S' o z fo := by
  rcases h with ⟨os, arr, fos, rfl, rfl, hl, hc, rfl⟩ | h
  · refine .inl ⟨os, arr, fos, rfl, rfl, hl, fun k hk => (hc k hk).strict (k := 5) ?_, rfl⟩
    have ht' : os.all (treeN 5) = true := ht
    exact List.all_eq_true.1 ht' _ (List.getElem_mem hk)
  · exact .inr (h.strict ht)

section
variable {B : Beg} {H : Nat → Option Ob} {w w' : World} {g : Gh} {P : Program} {b : Nat}

/-- The memory behind a call, the result aside. -/
theorem call_mem (m : MR B H w g) {own rd fpA foA : List Nat} {bw : List (Nat × Option Ob)} {S1 : Nat → Prop} {G : Nat → List Nat} (frz : Bool)
    (hos : w'.os = w.os) (htape : w'.tape = w.tape) (hout : w'.output = w.output) (hsize : w.heap.size ≤ w'.heap.size) (hfm : ∀ c, c < w.heap.size → c ∉ fpA → w'.heap[c]? = w.heap[c]?) (hbs : ∀ c, c < w.heap.size → bsz w' c = bsz w c)
    (hS : ∀ c, g.S c → S1 c) (hlt : ∀ c, S1 c → c < w'.heap.size) (hs1 : ∀ c, S1 c → g.S c ∨ (frz = true ∧ (RdS H g rd c ∨ w.heap.size ≤ c ∨ c ∈ fpA)))
    (hfp : From H g own fpA) (hfpS : ∀ c, c ∈ fpA → ¬ g.S c) (hor : ∀ i, i ∈ own → i ∉ rd) (he : Ent w' S1 H g own foA bw G) (hall : ∀ i, i ∈ own → ∃ x, x ∈ bw ∧ x.1 = i) (hfo : ∀ c, c ∈ foA → (c ∈ fpA ∨ w.heap.size ≤ c) ∧ ¬ S1 c) :
    ∃ g1, g1.S = S1 ∧ g1.J = g.J ∧ MR B (appW H (bw ++ (if frz then freezeW H rd else []))) w' g1 ∧ Pers w g.S g.J H w' S1 g.J (appW H (bw ++ (if frz then freezeW H rd else []))) ∧
      (∀ id ob, appW H (bw ++ (if frz then freezeW H rd else [])) id = some ob → ∀ c, c ∈ g1.F id → (∃ ob0, H id = some ob0 ∧ id ∉ own ∧ c ∈ g.F id) ∨ c ∈ foA) := by
  -- what is written
  have hfz : ∀ x, x ∈ (if frz then freezeW H rd else []) → ∃ ob, frz = true ∧ x.2 = some { ob with lv := 0 } ∧ H x.1 = some ob ∧ x.1 ∈ rd := fun x hx => by
    cases hf : frz with
    | false => rw [hf] at hx; cases hx
    | true =>
      rw [hf] at hx
      simp only [if_true] at hx
      unfold freezeW at hx
      obtain ⟨i, hi, hx⟩ := List.mem_filterMap.1 hx
      obtain ⟨ob, ho, rfl⟩ := Option.map_eq_some_iff.1 hx
      exact ⟨ob, rfl, rfl, ho, hi⟩
  generalize hl : bw ++ (if frz then freezeW H rd else []) = l
  have inl : ∀ x, x ∈ l → (x.2 = none ∧ x.1 ∈ own) ∨ (∃ (ob : Ob) (cs : List V) (jo : Option Nat), x.2 = some { ob with cells := cs } ∧ H x.1 = some ob ∧ x.1 ∈ own ∧ g.J x.1 = some jo ∧ ∀ J' H', OR w' S1 J' H' { ob with cells := cs } jo (G x.1)) ∨
      ∃ ob, frz = true ∧ x.2 = some { ob with lv := 0 } ∧ H x.1 = some ob ∧ x.1 ∈ rd := fun x hx => by
    rw [← hl] at hx
    rcases List.mem_append.1 hx with hx | hx
    · rcases he.ent x hx with h | h
      · exact .inl h
      · exact .inr (.inl h)
    · exact .inr (.inr (hfz x hx))
  -- the objects that are as they were
  let C : Nat → Prop := fun id => id ∈ own ∨ (frz = true ∧ id ∈ rd)
  have same : ∀ id, ¬ C id → appW H l id = H id := fun id hc => appW_notin fun x hx e => by
    rcases inl x hx with ⟨_, h⟩ | ⟨_, _, _, _, _, h, _⟩ | ⟨_, hf, _, _, h⟩
    · exact hc (.inl (e ▸ h))
    · exact hc (.inl (e ▸ h))
    · exact hc (.inr ⟨hf, e ▸ h⟩)
  let g1 : Gh := ⟨g.J, S1, fun id => if id ∈ own then G id else g.F id⟩
  -- an object behind the call
  have cases3 : ∀ id ob1, appW H l id = some ob1 → (id ∈ own ∧ ∃ (ob : Ob) (cs : List V) (jo : Option Nat), ob1 = { ob with cells := cs } ∧ H id = some ob ∧ g.J id = some jo ∧ ∀ J' H', OR w' S1 J' H' ob1 jo (G id)) ∨
      (id ∉ own ∧ ∃ ob, H id = some ob ∧ ob1.ver = ob.ver ∧ ob1.sz = ob.sz ∧ ob1.cells = ob.cells ∧ ((ob1 = ob ∧ ¬ (frz = true ∧ id ∈ rd)) ∨ (frz = true ∧ id ∈ rd ∧ ob1.lv = 0))) := fun id ob1 h => by
    by_cases ho : id ∈ own
    · rcases appW_mem l H id _ h with hm | ⟨h1, h2⟩
      · rcases inl _ hm with ⟨h3, _⟩ | ⟨ob, cs, jo, h3, h4, _, h5, h6⟩ | ⟨_, _, _, _, h3⟩
        · cases h3
        · simp only [Option.some.injEq] at h3
          subst h3
          exact .inl ⟨ho, ob, cs, jo, rfl, h4, h5, h6⟩
        · exact absurd h3 (hor id ho)
      · obtain ⟨x, hx, hxi⟩ := hall id ho
        exact absurd hxi (h2 x (by rw [← hl]; exact List.mem_append.2 (.inl hx)))
    · refine .inr ⟨ho, ?_⟩
      rcases appW_mem l H id _ h with hm | ⟨h1, h2⟩
      · rcases inl _ hm with ⟨_, h3⟩ | ⟨_, _, _, _, _, h3, _⟩ | ⟨ob, hf, h3, h4, h5⟩
        · exact absurd h3 ho
        · exact absurd h3 ho
        · simp only [Option.some.injEq] at h3
          subst h3
          exact ⟨ob, h4, rfl, rfl, rfl, .inr ⟨hf, h5, rfl⟩⟩
      · refine ⟨ob1, h1, rfl, rfl, rfl, .inl ⟨rfl, fun hx => ?_⟩⟩
        refine h2 (id, some { ob1 with lv := 0 }) ?_ rfl
        rw [← hl, hx.1]
        refine List.mem_append.2 (.inr ?_)
        simp only [if_true, freezeW]
        exact List.mem_filterMap.2 ⟨id, hx.2, by rw [h1]; rfl⟩
  have fpF : ∀ c, c ∈ fpA → ∀ id ob, H id = some ob → id ∉ own → c ∉ g.F id := fun c hc id ob h hid hF => by
    obtain ⟨i, o, h1, h2, _, h4⟩ := hfp c hc
    exact m.dj i id o ob (fun e => hid (e ▸ h1)) h2 h c h4 hF
  have foF : ∀ c, c ∈ foA → ∀ id ob, H id = some ob → id ∉ own → c ∉ g.F id := fun c hc id ob h hid hF => by
    rcases (hfo c hc).1 with h1 | h1
    · exact fpF c h1 id ob h hid hF
    · have := m.flt h c hF; omega
  have rdF : ∀ c id ob, RdS H g rd c → H id = some ob → id ∉ rd → c ∉ g.F id := fun c id ob ⟨i, o, h1, h2, h3⟩ h hid hF => m.dj i id o ob (fun e => hid (e ▸ h1)) h2 h c h3 hF
  have newS : ∀ id ob, H id = some ob → ¬ C id → ∀ c, c ∈ g.F id → ¬ g.S c → ¬ S1 c := fun id ob h hc c hF hn hs => by
    have ho : id ∉ own := fun h => hc (.inl h)
    rcases hs1 c hs with h1 | ⟨hf, h1 | h1 | h1⟩
    · exact hn h1
    · exact rdF c id ob h1 h (fun h => hc (.inr ⟨hf, h⟩)) hF
    · have := m.flt h c hF; omega
    · exact fpF c h1 id ob h ho hF
  have hs1' : ∀ c, S1 c → B.S c ∨ B.w.heap.size ≤ c ∨ c ∈ B.fp := fun c hs => by
    rcases hs1 c hs with h1 | ⟨_, ⟨i, o, _, h2, h3⟩ | h1 | h1⟩
    · exact m.s1 c h1
    · rcases m.new i o h2 c h3 with h | h
      · exact .inr (.inr h)
      · exact .inr (.inl h)
    · have := m.size; right; left; omega
    · obtain ⟨i, o, _, h2, _, h4⟩ := hfp c h1
      rcases m.new i o h2 c h4 with h | h
      · exact .inr (.inr h)
      · exact .inr (.inl h)
  have ch : Chg B H w g C (appW H l) w' g1 := by
    refine ⟨fun id hc => ⟨same id hc, rfl, if_neg fun h => hc (.inl h)⟩, hos, htape, hout, hsize, hbs, fun c hc => ?_, hS, hlt, hs1', fun id _ h => h, fun id ob1 hc hj h => ?_, fun id ob c hc h hlv hj => ?_, fun hst id ob hc h hlv c hF => ?_⟩
    · by_cases hin : c ∈ fpA
      · obtain ⟨i, o, h1, h2, h3, h4⟩ := hfp c hin
        exact .inr ⟨i, o, .inl h1, h2, h4, hfpS c hin⟩
      · exact .inl (hfm c hc hin)
    · rcases cases3 id ob1 h with ⟨_, ob, cs, jo, rfl, h1, h2, _⟩ | ⟨_, ob, h1, h2, h3, _⟩
      · exact ⟨ob, h1, .inr ⟨rfl, rfl, rfl⟩⟩
      · exact ⟨ob, h1, .inr ⟨h2.symm, h3.symm, rfl⟩⟩
    · exact newS id ob h hc c (m.own h hj) (m.mu id ob c h hlv hj)
    · exact newS id ob h hc c hF (m.ms hst id ob h hlv c hF)
  have p := ch.toPers m
  refine ⟨g1, rfl, rfl, ch.next m fun id ob1 hc h => ?_, p, fun id ob1 h c hF => ?_⟩
  · have other : ∀ c, (∀ id2 ob2, H id2 = some ob2 → id2 ∉ own → id2 ≠ id → c ∉ g.F id2) → (∀ id2, id2 ∈ own → id2 ≠ id → c ∉ G id2) → ∀ id2 ob2, id2 ≠ id → appW H l id2 = some ob2 → c ∉ g1.F id2 := fun c q1 q2 id2 ob2 hne h2 hF => by
      rcases cases3 id2 ob2 h2 with ⟨ho, _⟩ | ⟨ho, ob, h1, _⟩
      · have : c ∈ G id2 := by simpa only [g1, ho, if_true] using hF
        exact q2 id2 ho hne this
      · have : c ∈ g.F id2 := by simpa only [g1, ho, if_false] using hF
        exact q1 id2 ob h1 ho hne this
    rcases cases3 id ob1 h with ⟨ho, ob, cs, jo, rfl, h1, h2, h3⟩ | ⟨ho, ob, h1, h2, h3, h4, h5⟩
    · have hF1 : g1.F id = G id := if_pos ho
      refine ⟨jo, h2, by rw [hF1]; exact h3 _ _, by rw [hF1]; exact (he.nd id ho).1, fun _ => ⟨fun c hc => ?_, fun _ c hc => ?_⟩, fun c hc => ?_, fun id2 ob2 hne h2' c hc => ?_⟩
      · subst hc
        obtain ⟨arr, e, fr, fp, _, _, _, _, _, hG⟩ := h3 g.J H
        exact (hfo c ((he.nd id ho).2 c (by rw [hG]; exact List.mem_cons_self ..))).2
      · rw [hF1] at hc; exact (hfo c ((he.nd id ho).2 c hc)).2
      · rw [hF1] at hc
        rcases (hfo c ((he.nd id ho).2 c hc)).1 with h | h
        · obtain ⟨i, o, _, q2, _, q4⟩ := hfp c h
          exact m.new i o q2 c q4
        · have := m.size; right; omega
      · rw [hF1] at hc
        exact other c (fun i2 o2 q1 q2 _ => foF c ((he.nd id ho).2 c hc) i2 o2 q1 q2) (fun i2 q1 q2 => he.dj id i2 ho q1 (Ne.symm q2) c hc) id2 ob2 hne h2'
    · have hF1 : g1.F id = g.F id := if_neg ho
      have hfr : frz = true ∧ id ∈ rd := hc.resolve_left ho
      have hlv : ob1.lv = 0 := by
        rcases h5 with ⟨_, h5⟩ | ⟨_, _, h5⟩
        · exact absurd hfr h5
        · exact h5
      cases hj : g.J id with
      | none => exact absurd hj (m.hj id ob h1)
      | some jo =>
        have hO := m.ob id ob jo h1 hj
        have hO1 : OR w g.S g.J H ob1 jo (g.F id) := by
          cases jo with
          | none => exact ⟨by rw [h4]; exact hO.1, hO.2⟩
          | some blk =>
            obtain ⟨arr, e, fr, fp, q1, q2, q3, q4, q5, q6⟩ := hO
            have hcl : ob1.cells = ob.cells := h4
            exact ⟨arr, e, fr, fp, q1, q2, by rw [hcl]; exact q3, fun k hk => by
              have hk' : k < ob.cells.length := by rw [← hcl]; exact hk
              have := q4 k hk'
              simpa only [hcl] using this, fun k hk => q5 k (by rw [← hcl]; exact hk), by rw [hcl]; exact q6⟩
        refine ⟨jo, rfl, by rw [hF1]; exact hO1.mono p fun c hc => hfm c (m.flt h1 c hc) fun hin => fpF c hin id ob h1 ho hc, by rw [hF1]; exact m.nd id ob h1, fun h => by omega, fun c hc => m.new id ob h1 c (by rw [← hF1]; exact hc), fun id2 ob2 hne h2' c hc => ?_⟩
        rw [hF1] at hc
        exact other c (fun i2 o2 q1 _ q2 => m.dj id i2 ob o2 (Ne.symm q2) h1 q1 c hc) (fun i2 q1 _ hG => foF c ((he.nd i2 q1).2 c hG) id ob h1 ho hc) id2 ob2 hne h2'
  · rcases cases3 id ob1 h with ⟨ho, _⟩ | ⟨ho, ob, h1, _⟩
    · have : c ∈ G id := by simpa only [g1, ho, if_true] using hF
      exact .inr ((he.nd id ho).2 c this)
    · have : c ∈ g.F id := by simpa only [g1, ho, if_false] using hF
      exact .inl ⟨ob, h1, ho, this⟩

theorem backW_all : ∀ {as : List V} {ps : List AP} {os : List V} {l : List (Nat × Option Ob)}, as.length = ps.length → backW H as ps os = some l → ∀ i, i ∈ ps.flatMap (·.own) → ∃ x, x ∈ l ∧ x.1 = i
  | [], [], os, l, _, e, i, hi => by simp at hi
  | [], p :: ps, _, _, hl, _, _, _ => by simp at hl
  | a :: as, [], _, _, hl, _, _, _ => by simp at hl
  | a :: as, p :: ps, os, l, hl, e, i, hi => by
    simp only [backW] at e
    split at e
    · rename_i x y hx hy
      simp only [Option.some.injEq] at e
      subst e
      rw [List.flatMap_cons] at hi
      rcases List.mem_append.1 hi with hi | hi
      · exact ⟨(i, none), List.mem_append.2 (.inl (List.mem_append.2 (.inl (List.mem_map.2 ⟨i, hi, rfl⟩)))), rfl⟩
      · obtain ⟨x, hx, h⟩ := backW_all (by simpa using hl) hy i hi
        exact ⟨x, List.mem_append.2 (.inr hx), h⟩
    · cases e

/-- A call. -/
theorem call_sound (m : MR B H w g) (hb : ∀ id, b ≤ id → id < b + 64 → g.J id = none) {f : FuncId} {modes : List Nat} {call : List V → Option Res} {as : List V} {args : Array Value} {d : D}
    (hc : ∀ vals r, call vals = some r → CallOk P f vals r) (e : callD H b B.strict modes call as = some d) (hlen : args.size = as.length) (hv : ∀ k (hk : k < as.length), VR w g.S g.J H as[k] (args.getD k Go.undef)) :
    Goes P f args w fun z w' => ∃ g', Out B H w g b d z w' g' := by
  unfold callD at e
  split at e
  · cases e
  · rename_i ps hps
    have hpl := prepL_len hps
    split at e
    · rename_i hcond
      simp only [Bool.and_eq_true] at hcond
      obtain ⟨⟨⟨c1, c2⟩, c3⟩, c4⟩ := hcond
      have hno := nodup_of_nodupB c1
      have hor : ∀ i, i ∈ ps.flatMap (·.own) → i ∉ ps.flatMap (·.rd) := fun i hi => by
        have := List.all_eq_true.1 c2 i hi
        simpa using this
      split at e
      · cases e
      · rename_i r hr
        obtain ⟨htup, hok⟩ := hc _ r hr
        split at e
        · cases e
        · rename_i bw hbw
          let Sc : Nat → Prop := fun c => g.S c ∨ RdS H g (ps.flatMap (·.rd)) c
          obtain ⟨fps, hfps⟩ := prepL_sound m (S' := Sc) (fun c h => .inl h) (xs := fun k => args.getD k Go.undef) hps hv hno (fun c h => .inr h)
          have hvl : (ps.map (·.v)).length = ps.length := List.length_map _
          obtain ⟨n1, n2⟩ := nodup_flatMap_at hno
          have hnd : ((List.range (ps.map (·.v)).length).flatMap fps).Nodup := by
            rw [hvl]
            exact nodup_fm.2 ⟨fun k hk => (hfps k hk).2.1, fun i j hij hj c hc hc' => from_apart m (hfps i (by omega)).2.2 (hfps j hj).2.2 (n2 i j (by omega) hj (by omega)) c hc hc'⟩
          have hfrom : From H g (ps.flatMap (·.own)) ((List.range (ps.map (·.v)).length).flatMap fps) := fun c hc => by
            rw [hvl] at hc
            obtain ⟨k, hk, hc⟩ := mem_fm.1 hc
            obtain ⟨id, ob, q1, q2, q3, q4⟩ := (hfps k hk).2.2 c hc
            exact ⟨id, ob, List.mem_flatMap.2 ⟨_, List.getElem_mem hk, q1⟩, q2, q3, q4⟩
          have hfpS : ∀ c, c ∈ (List.range (ps.map (·.v)).length).flatMap fps → ¬ g.S c := fun c hc hs => by
            obtain ⟨id, ob, q1, q2, q3, q4⟩ := hfrom c hc
            rw [Bool.or_eq_true] at c3
            rcases c3 with c3 | c3
            · exact m.ms c3 id ob q2 q3 c q4 hs
            · exact m.mu id ob c q2 q3 (flat_own m c3 q1 q2 q4) hs
          refine (hok w Sc args fps (by rw [hvl, hpl]; exact hlen) (fun k hk => by
              have hk' : k < ps.length := by rw [hvl] at hk; exact hk
              have := (hfps k hk').1
              simpa using this) c4 hnd (fun c hc hs => by
              rcases hs with hs | ⟨i, o, h1, h2, h3⟩
              · exact hfpS c hc hs
              · obtain ⟨id, ob, q1, q2, q3, q4⟩ := hfrom c hc
                exact m.dj id i ob o (fun e => hor id q1 (e ▸ h1)) q2 h2 c q4 h3) (fun c hs => by
              rcases hs with hs | ⟨i, o, h1, h2, h3⟩
              · exact m.lt c hs
              · exact m.flt h2 c h3)).mono ?_
          rintro z w' ⟨S', fp, fo, po⟩
          let frz : Bool := !(r.fresh && r.outs.all (treeN depth))
          let S1 : Nat → Prop := if frz then S' else g.S
          have hnd2 := po.nd
          rw [List.nodup_append] at hnd2
          obtain ⟨nd1, nd2, nd3⟩ := hnd2
          -- what comes back, under what is only read now
          have houts : ∀ k (hk : k < r.outs.length), OutA w' S1 r.outs[k] (args.getD k Go.undef) (fo k) := fun k hk => by
            cases hf : r.fresh && r.outs.all (treeN depth) with
            | false =>
              have : S1 = S' := by simp only [S1, frz, hf, Bool.not_false, if_true]
              rw [this]; exact po.outs k hk
            | true =>
              have ht : r.outs.all (treeN depth) = true := by simp only [Bool.and_eq_true] at hf; exact hf.2
              exact (po.outs k hk).strict (List.all_eq_true.1 ht _ (List.getElem_mem hk))
          obtain ⟨G, he⟩ := backW_sound (w' := w') (S1 := S1) (xs := fun k => args.getD k Go.undef) hps hbw hv houts nd2 hno
          have hS1 : ∀ c, S1 c → g.S c ∨ (frz = true ∧ (RdS H g (ps.flatMap (·.rd)) c ∨ w.heap.size ≤ c ∨ c ∈ (List.range (ps.map (·.v)).length).flatMap fps)) := fun c hs => by
            cases hf : frz with
            | false =>
              have : S1 = g.S := by simp only [S1, hf]; rfl
              rw [this] at hs; exact .inl hs
            | true =>
              have : S1 = S' := by simp only [S1, hf, if_true]
              rw [this] at hs
              rcases po.hs1 c hs with (h | h) | h | h
              · exact .inl h
              · exact .inr ⟨rfl, .inl h⟩
              · exact .inr ⟨rfl, .inr (.inl h)⟩
              · exact .inr ⟨rfl, .inr (.inr h)⟩
          have hSS : ∀ c, g.S c → S1 c := fun c hs => by
            cases hf : frz with
            | false =>
              have : S1 = g.S := by simp only [S1, hf]; rfl
              rw [this]; exact hs
            | true =>
              have : S1 = S' := by simp only [S1, hf, if_true]
              rw [this]; exact po.hS c (.inl hs)
          have hlt1 : ∀ c, S1 c → c < w'.heap.size := fun c hs => by
            cases hf : frz with
            | false =>
              have : S1 = g.S := by simp only [S1, hf]; rfl
              rw [this] at hs
              exact Nat.lt_of_lt_of_le (m.lt c hs) po.size
            | true =>
              have : S1 = S' := by simp only [S1, hf, if_true]
              rw [this] at hs; exact po.hlt c hs
          have notS1 : ∀ c, (c ∈ fp ∨ ∃ k, k < r.outs.length ∧ c ∈ fo k) → ¬ S1 c := fun c hc hs => by
            cases hf : frz with
            | false =>
              have : S1 = g.S := by simp only [S1, hf]; rfl
              rw [this] at hs
              rcases po.new c hc with h | h
              · exact hfpS c h hs
              · have := m.lt c hs; omega
            | true =>
              have : S1 = S' := by simp only [S1, hf, if_true]
              rw [this] at hs
              exact po.oS (by
                have hf' : (!(r.fresh && r.outs.all (treeN depth))) = true := hf
                rwa [Bool.not_eq_true'] at hf') c hc hs
          obtain ⟨g1, s1, j1, m1, p1, f1⟩ := call_mem m (rd := ps.flatMap (·.rd)) frz po.os po.tape po.output po.size po.fm po.bs hSS hlt1 hS1 hfrom hfpS hor he (backW_all hpl.symm hbw) (fun c hc => by
            obtain ⟨k, hk, hc⟩ := mem_fm.1 hc
            exact ⟨po.new c (.inr ⟨k, hk, hc⟩), notS1 c (.inr ⟨k, hk, hc⟩)⟩)
          split at e
          · rename_i hfresh
            split at e
            · rename_i hw
              simp only [Option.some.injEq] at e
              subst e
              have hz : TR w' (fun _ => False) r.v z fp := by
                rcases po.val with h | h
                · exact h.2
                · rw [hfresh] at h; cases h.1
              have hfrzE : (if frz = true then freezeW H (ps.flatMap (·.rd)) else []) = (if r.outs.all (treeN depth) = true then [] else freezeW H (ps.flatMap (·.rd))) := by
                simp only [frz, hfresh, Bool.true_and]
                cases r.outs.all (treeN depth) <;> simp
              rw [hfrzE] at m1 p1 f1
              obtain ⟨g2, t, v2⟩ := adopt_sound m1 (x := b) (fun id l1 l2 => by rw [j1]; exact hb id l1 l2) hw (fun vs hvs k hk us hu => by
                  have := List.all_eq_true.1 (htup vs hvs) _ (List.getElem_mem hk)
                  rw [hu] at this; cases this)
                (hz.mono (fun _ h => h.elim) (fun _ _ => rfl) fun _ _ => rfl) nd1 (fun c hc => by
                  refine ⟨?_, fun id ob h hF => ?_, by rw [s1]; exact notS1 c (.inl hc)⟩
                  · rcases po.new c (.inl hc) with h | h
                    · obtain ⟨i, o, _, q2, _, q4⟩ := hfrom c h
                      exact m.new i o q2 c q4
                    · have := m.size; right; omega
                  · rcases f1 id ob h c hF with ⟨ob0, h0, hno, hF0⟩ | h0
                    · rcases po.new c (.inl hc) with h | h
                      · obtain ⟨i, o, q1, q2, _, q4⟩ := hfrom c h
                        exact m.dj i id o ob0 (fun e => hno (e ▸ q1)) q2 h0 c q4 hF0
                      · have := m.flt h0 c hF0; omega
                    · exact nd3 c hc c h0 rfl)
              refine ⟨g2, ?_, ?_, ?_, fun id hid => ?_⟩
              · show VR w' g2.S g2.J (appW H (_ ++ (adopt b r.v).2)) _ _
                rw [appW_append]; exact v2
              · show MR B (appW H (_ ++ (adopt b r.v).2)) w' g2
                rw [appW_append]; exact t.m
              · show Pers w g.S g.J H w' g2.S g2.J (appW H (_ ++ (adopt b r.v).2))
                rw [appW_append]
                have p1' : Pers w g.S g.J H w' g1.S g1.J (appW H (bw ++ (if r.outs.all (treeN depth) = true then [] else freezeW H (ps.flatMap (·.rd))))) := by rw [s1, j1]; exact p1
                exact p1'.trans t.p
              · by_cases e : b ≤ id ∧ id < b + 64
                · exact .inr e
                · rw [(t.out id e).1, j1] at hid; exact .inl hid
            · cases e
          · rename_i hfresh
            have hfresh' : r.fresh = false := by simpa using hfresh
            simp only [Option.some.injEq] at e
            subst e
            have hfz : frz = true := by simp [frz, hfresh']
            have hz : PR w' S' r.v z := by
              rcases po.val with h | h
              · rw [hfresh'] at h; cases h.1
              · exact h.2.1
            have hSe : S1 = S' := by simp only [S1, hfz, if_true]
            rw [hfz] at m1 p1
            simp only [if_true] at m1 p1
            refine ⟨g1, .pure ?_, m1, ?_, fun id hid => ?_⟩
            · rw [s1, hSe]; exact hz
            · show Pers w g.S g.J H w' g1.S g1.J _
              rw [s1, j1]; exact p1
            · rw [j1] at hid; exact .inl hid
    · cases e
end

end Go.Proofs.Ytclebbjpacpbmaa.Ev
