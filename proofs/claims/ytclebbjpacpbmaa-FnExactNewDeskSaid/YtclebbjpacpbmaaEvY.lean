/- The abstract interpreter: the objects numbered anew. Conditions: none. -/
import Derived.Test.YtclebbjpacpbmaaEvC
set_option linter.unusedVariables false
set_option linter.unusedSimpArgs false
namespace Go.Proofs.Ytclebbjpacpbmaa.Ev
open Go

theorem VR.noId {w : World} {S : Nat → Prop} {J J' : Nat → Option (Option Nat)} {H H' : Nat → Option Ob} {v : V} {x : Value} (h : VR w S J H v x) : ∀ {k : Nat}, Ev.noId k v = true → VR w S J' H' v x := by
  induction h with
  | any x => exact fun _ => .any x
  | pure h => exact fun _ => .pure h
  | sl hj hlc hcm hA h => intro k e; cases k <;> simp [Ev.noId] at e
  | ptr hj h => intro k e; cases k <;> simp [Ev.noId] at e
  | func h1 h2 hf hc ihf ihc =>
    intro k e
    cases k with
    | zero => simp [Ev.noId] at e
    | succ k =>
      simp only [Ev.noId, Bool.and_eq_true, List.all_eq_true] at e
      exact .func h1 h2 (fun j hj => ihf j hj (e.1 _ (List.getElem_mem hj))) (fun j hj => ihc j hj (e.2 _ (List.getElem_mem hj)))
  | iface h ih =>
    intro k e
    cases k with
    | zero => simp [Ev.noId] at e
    | succ k => simp only [Ev.noId] at e; exact .iface (ih e)
  | agg hl h h1 ih =>
    intro k e
    cases k with
    | zero => simp [Ev.noId] at e
    | succ k => simp only [Ev.noId, List.all_eq_true] at e; exact .agg hl (fun j hj => ih j hj (e _ (List.getElem_mem hj))) h1
  | tup hl h ih =>
    intro k e
    cases k with
    | zero => simp [Ev.noId] at e
    | succ k => simp only [Ev.noId, List.all_eq_true] at e; exact .tup hl (fun j hj => ih j hj (e _ (List.getElem_mem hj)))

theorem posN_spec : ∀ {xs : List Nat} {id i j : Nat}, posN xs id i = some j → ∃ q, j = i + q ∧ q < xs.length ∧ xs.getD q 0 = id
  | [], id, i, j, h => by cases h
  | x :: xs, id, i, j, h => by
    unfold posN at h
    split at h
    · rename_i e
      injection h with h
      exact ⟨0, by omega, by simp, by simp [e]⟩
    · obtain ⟨q, h1, h2, h3⟩ := posN_spec h
      exact ⟨q + 1, by omega, by simp; omega, by simpa using h3⟩

section
variable (ord : List Nat) (J : Nat → Option (Option Nat)) (H : Nat → Option Ob)
def renJ : Nat → Option (Option Nat) := fun j => if j < ord.length then J (ord.getD j 0) else none
def renH : Nat → Option Ob := fun j => (ord.map fun id => (H id).map (renO ord H)).getD j none
end

section
variable {ord : List Nat} {J : Nat → Option (Option Nat)} {H : Nat → Option Ob} {w : World} {S : Nat → Prop}

theorem renH_some {j : Nat} {ob' : Ob} (h : renH ord H j = some ob') : j < ord.length ∧ ∃ ob, H (ord.getD j 0) = some ob ∧ ob' = renO ord H ob := by
  unfold renH at h
  by_cases hj : j < ord.length
  · refine ⟨hj, ?_⟩
    simp only [List.getD_eq_getElem?_getD, List.getElem?_map, List.getElem?_eq_getElem hj, Option.map_some, Option.getD_some] at h ⊢
    obtain ⟨ob, h1, h2⟩ := Option.map_eq_some_iff.1 h
    exact ⟨ob, h1, h2.symm⟩
  · rw [List.getD_eq_getElem?_getD, List.getElem?_eq_none (by simpa using hj)] at h
    cases h

theorem PR.renV {v : V} {x : Value} (h : PR w S v x) : ∀ k, VR w S (renJ ord J) (renH ord H) (Ev.renV ord H k v) x := by
  induction h with
  | undef => intro k; cases k <;> exact .pure .undef
  | bool b => intro k; cases k <;> exact .pure (.bool b)
  | int kd n => intro k; cases k <;> exact .pure (.int kd n)
  | str s => intro k; cases k <;> exact .pure (.str s)
  | nilp => intro k; cases k <;> exact .pure .nilp
  | nilf => intro k; cases k <;> exact .pure .nilf
  | nili => intro k; cases k <;> exact .pure .nili
  | nils A => intro k; cases k <;> exact .pure (.nils A)
  | list f hd hn hm h h1 ih =>
    have := PR.list f hd hn hm h h1
    intro k; cases k <;> exact .pure this
  | ref f hs hd h h1 ih =>
    rename_i cs off ad
    have := PR.ref (off := off) f hs hd h h1
    intro k; cases k <;> exact .pure this
  | func h1 h2 hf hc ihf ihc =>
    intro k
    cases k with
    | zero => exact .any _
    | succ k =>
      refine .func (by simpa using h1) (by simpa using h2) (fun j hj => ?_) (fun j hj => ?_)
      · simp only [List.length_map] at hj; simp only [List.getElem_map]; exact ihf j hj k
      · simp only [List.length_map] at hj; simp only [List.getElem_map]; exact ihc j hj k
  | iface h ih =>
    intro k
    cases k with
    | zero => exact .any _
    | succ k => exact .iface (ih k)
  | agg hl h h1 ih =>
    intro k
    cases k with
    | zero => exact .any _
    | succ k =>
      refine .agg (by simpa using hl) (fun j hj => ?_) (fun j hj => h1 j (by simpa using hj))
      simp only [List.length_map] at hj; simp only [List.getElem_map]; exact ih j hj k
  | tup hl h ih =>
    intro k
    cases k with
    | zero => exact .any _
    | succ k =>
      refine .tup (by simpa using hl) (fun j hj => ?_)
      simp only [List.length_map] at hj; simp only [List.getElem_map]; exact ih j hj k

theorem VR.renV {v : V} {x : Value} (h : VR w S J H v x) : ∀ k, VR w S (renJ ord J) (renH ord H) (Ev.renV ord H k v) x := by
  induction h with
  | any x => intro k; cases k <;> exact .any x
  | pure h => exact fun k => h.renV k
  | sl hj hlc hcm hA h =>
    rename_i id ver off len c A
    intro k
    have e : Ev.renV ord H k (.sl id ver off len) = renI ord H id ver fun j => .sl j 0 off len := by cases k <;> rfl
    rw [e]
    unfold renI
    split
    · rename_i ob j hob hpos
      split
      · rename_i hver
        obtain ⟨q, h1, h2, h3⟩ := posN_spec hpos
        obtain rfl : j = q := by omega
        have hJ : renJ ord J j = J id := by unfold renJ; rw [if_pos h2, h3]
        refine .sl (by rw [hJ]; exact hj) hlc hcm hA fun ob' hob' => ?_
        obtain ⟨_, ob1, ho1, rfl⟩ := renH_some hob'
        rw [h3, hob] at ho1
        injection ho1 with ho1
        subst ho1
        refine ⟨Nat.zero_le _, fun _ => ?_⟩
        rw [hJ]
        exact (h ob hob).2 hver
      · exact .any _
    · exact .any _
  | ptr hj h =>
    rename_i id ver off a
    intro k
    have e : Ev.renV ord H k (.ptr id ver off) = renI ord H id ver fun j => .ptr j 0 off := by cases k <;> rfl
    rw [e]
    unfold renI
    split
    · rename_i ob j hob hpos
      split
      · rename_i hver
        obtain ⟨q, h1, h2, h3⟩ := posN_spec hpos
        obtain rfl : j = q := by omega
        have hJ : renJ ord J j = J id := by unfold renJ; rw [if_pos h2, h3]
        refine .ptr (by rw [hJ]; exact hj) fun ob' hob' => ?_
        obtain ⟨_, ob1, ho1, rfl⟩ := renH_some hob'
        rw [h3, hob] at ho1
        injection ho1 with ho1
        subst ho1
        refine ⟨Nat.zero_le _, fun _ => ?_⟩
        rw [hJ]
        exact (h ob hob).2 hver
      · exact .any _
    · exact .any _
  | func h1 h2 hf hc ihf ihc =>
    intro k
    cases k with
    | zero => exact .any _
    | succ k =>
      refine .func (by simpa using h1) (by simpa using h2) (fun j hj => ?_) (fun j hj => ?_)
      · simp only [List.length_map] at hj; simp only [List.getElem_map]; exact ihf j hj k
      · simp only [List.length_map] at hj; simp only [List.getElem_map]; exact ihc j hj k
  | iface h ih =>
    intro k
    cases k with
    | zero => exact .any _
    | succ k => exact .iface (ih k)
  | agg hl h h1 ih =>
    intro k
    cases k with
    | zero => exact .any _
    | succ k =>
      refine .agg (by simpa using hl) (fun j hj => ?_) (fun j hj => h1 j (by simpa using hj))
      simp only [List.length_map] at hj; simp only [List.getElem_map]; exact ih j hj k
  | tup hl h ih =>
    intro k
    cases k with
    | zero => exact .any _
    | succ k =>
      refine .tup (by simpa using hl) (fun j hj => ?_)
      simp only [List.length_map] at hj; simp only [List.getElem_map]; exact ih j hj k

theorem CR.renC {v : V} {x : Value} {fp : List Nat} (h : CR w S J H v x fp) : CR w S (renJ ord J) (renH ord H) (Ev.renC ord H v) x (if noId depth v then fp else []) := by
  unfold Ev.renC
  split
  · rename_i hn
    rcases h with ⟨h, e⟩ | h
    · exact .inl ⟨h.noId hn, e⟩
    · exact .inr h
  · rename_i hn
    split
    · rcases h with ⟨h, e⟩ | h
      · exact .inl ⟨h.renV depth, rfl⟩
      · cases h with | pr h => cases h
    · rcases h with ⟨h, e⟩ | h
      · exact .inl ⟨h.renV depth, rfl⟩
      · cases h with | pr h => cases h
    · exact .inl ⟨.any _, rfl⟩

theorem OR.ren {ob : Ob} {jo : Option Nat} {F : List Nat} (h : OR w S J H ob jo F) (hn : F.Nodup) : ∃ F', OR w S (renJ ord J) (renH ord H) (renO ord H ob) jo F' ∧ F'.Nodup ∧ ∀ b, b ∈ F' → b ∈ F := by
  cases jo with
  | none => exact ⟨[], ⟨by simp [renO, h.1], rfl⟩, List.nodup_nil, fun b hb => by cases hb⟩
  | some b =>
    obtain ⟨arr, e, fr, fp, hb, hz, hl, hc, h1, rfl⟩ := h
    have sub : ∀ k, ∀ c, c ∈ (if noId depth (ob.cells.getD k .undef) = true then fp k else []) → c ∈ fp k := fun k c hc => by
      split at hc
      · exact hc
      · cases hc
    refine ⟨b :: (List.range ob.cells.length).flatMap (fun k => if noId depth (ob.cells.getD k .undef) then fp k else []), ⟨arr, e, fr, fun k => if noId depth (ob.cells.getD k .undef) then fp k else [], hb, hz, by simpa [renO] using hl, fun k hk => ?_, fun k hk => h1 k (by simpa [renO] using hk), by simp [renO]⟩, ?_, ?_⟩
    · have hk' : k < ob.cells.length := by simpa [renO] using hk
      have := (hc k hk').renC (ord := ord)
      simpa only [renO, List.getElem_map, List.getD_eq_getElem?_getD, List.getElem?_eq_getElem hk', Option.getD_some] using this
    · rw [List.nodup_cons] at hn ⊢
      obtain ⟨n1, n2⟩ := nodup_fm.1 hn.2
      refine ⟨fun hx => hn.1 ?_, nodup_fm.2 ⟨fun k hk => ?_, fun i j hij hj c hci hcj => n2 i j hij hj c (sub i c hci) (sub j c hcj)⟩⟩
      · obtain ⟨k, hk, hc'⟩ := mem_fm.1 hx
        exact mem_fm.2 ⟨k, hk, sub k b hc'⟩
      · split
        · exact n1 k hk
        · exact List.nodup_nil
    · intro c hc'
      rcases List.mem_cons.1 hc' with rfl | hc'
      · exact List.mem_cons_self ..
      · obtain ⟨k, hk, hc''⟩ := mem_fm.1 hc'
        exact List.mem_cons_of_mem _ (mem_fm.2 ⟨k, hk, sub k c hc''⟩)
end

theorem nodupB_inj : ∀ {l : List Nat}, nodupB l = true → ∀ i j, i < l.length → j < l.length → l.getD i 0 = l.getD j 0 → i = j
  | [], _, i, j, hi, _, _ => by simp at hi
  | x :: xs, h, i, j, hi, hj, e => by
    simp only [nodupB, Bool.and_eq_true, Bool.not_eq_true', List.contains_eq_mem, decide_eq_false_iff_not] at h
    cases i with
    | zero =>
      cases j with
      | zero => rfl
      | succ j =>
        exfalso
        have hj' : j < xs.length := by simpa using hj
        simp only [List.getD_cons_zero, List.getD_cons_succ] at e
        rw [List.getD_eq_getElem?_getD, List.getElem?_eq_getElem hj', Option.getD_some] at e
        exact h.1 (e ▸ List.getElem_mem hj')
    | succ i =>
      have hi' : i < xs.length := by simpa using hi
      cases j with
      | zero =>
        exfalso
        simp only [List.getD_cons_zero, List.getD_cons_succ] at e
        rw [List.getD_eq_getElem?_getD, List.getElem?_eq_getElem hi', Option.getD_some] at e
        exact h.1 (e ▸ List.getElem_mem hi')
      | succ j => rw [nodupB_inj h.2 i j hi' (by simpa using hj) (by simpa using e)]

theorem lookF_keep {w : World} {S : Nat → Prop} {J : Nat → Option (Option Nat)} {H : Nat → Option Ob} {f : Nat → V} {x : Value} {t : Nat} (h : VR w S J H (f t) x) : ∀ keep : List Nat, VR w S J H (lookF (keep.map fun t => (t, f t)) t) x
  | [] => .any x
  | k :: ks => by
    simp only [List.map_cons, lookF]
    split
    · rename_i e; subst e; exact h
    · exact lookF_keep h ks

/-- The state of a frame, its objects numbered anew. -/
theorem SR.canon {B : Beg} {st : St} {a : Act} {w : World} {g : Gh} (s : SR B st.fr st.H (fun id => id < st.nx) a w g) (hk : ∀ p, p ∈ B.keep → noId depth p.1 = true) (keep : List Nat) :
    ∃ g', SR B (Ev.canon keep st).fr (Ev.canon keep st).H (fun id => id < (Ev.canon keep st).nx) a w g' := by
  unfold Ev.canon canonW
  generalize ordOf keep st.fr st.H = ord
  split
  · rename_i hc
    simp only [Bool.and_eq_true, decide_eq_true_eq] at hc
    have hinj := nodupB_inj hc.1
    have hF : ∀ j, ∃ F', (∀ ob' jo, renH ord st.H j = some ob' → renJ ord g.J j = some jo → OR w g.S (renJ ord g.J) (renH ord st.H) ob' jo F' ∧ F'.Nodup) ∧ ∀ b, b ∈ F' → b ∈ g.F (ord.getD j 0) := fun j => by
      cases ho : renH ord st.H j with
      | none => exact ⟨[], ⟨fun ob' jo h => (by cases h), fun b hb => (by cases hb)⟩⟩
      | some ob' =>
        obtain ⟨hj, ob, h1, rfl⟩ := renH_some ho
        cases hj2 : g.J (ord.getD j 0) with
        | none => exact absurd hj2 (s.m.hj _ _ h1)
        | some jo =>
          obtain ⟨F', o1, o2, o3⟩ := (s.m.ob _ _ _ h1 hj2).ren (ord := ord) (s.m.nd _ _ h1)
          refine ⟨F', fun ob' jo' e1 e2 => ?_, o3⟩
          injection e1 with e1
          subst e1
          unfold renJ at e2
          rw [if_pos hj, hj2] at e2
          injection e2 with e2
          subst e2
          exact ⟨o1, o2⟩
    have hJ : ∀ {j ob'}, renH ord st.H j = some ob' → renJ ord g.J j ≠ none := fun {j ob'} h => by
      obtain ⟨hj, ob, h1, rfl⟩ := renH_some h
      unfold renJ
      rw [if_pos hj]
      exact s.m.hj _ _ h1
    have hF' : ∀ j, ∃ F', (∀ ob', renH ord st.H j = some ob' → F'.Nodup) ∧ (∀ ob' jo, renH ord st.H j = some ob' → renJ ord g.J j = some jo → OR w g.S (renJ ord g.J) (renH ord st.H) ob' jo F') ∧ ∀ b, b ∈ F' → b ∈ g.F (ord.getD j 0) := fun j => by
      obtain ⟨F', h1, h2⟩ := hF j
      refine ⟨F', fun ob' e => ?_, fun ob' jo e1 e2 => (h1 ob' jo e1 e2).1, h2⟩
      cases hj : renJ ord g.J j with
      | none => exact absurd hj (hJ e)
      | some jo => exact (h1 ob' jo e hj).2
    let F : Nat → List Nat := fun j => Classical.choose (hF' j)
    have f1 : ∀ j ob', renH ord st.H j = some ob' → (F j).Nodup := fun j => (Classical.choose_spec (hF' j)).1
    have f2 : ∀ j ob' jo, renH ord st.H j = some ob' → renJ ord g.J j = some jo → OR w g.S (renJ ord g.J) (renH ord st.H) ob' jo (F j) := fun j => (Classical.choose_spec (hF' j)).2.1
    have f3 : ∀ j b, b ∈ F j → b ∈ g.F (ord.getD j 0) := fun j => (Classical.choose_spec (hF' j)).2.2
    refine ⟨⟨renJ ord g.J, g.S, F⟩, s.df, s.sz, fun t => ?_, fun id hid => ?_, ?_, fun p hp => (s.kp p hp).noId (hk p hp)⟩
    · exact lookF_keep (f := fun t => Ev.renV ord st.H depth (st.fr t)) ((s.sl t).renV depth) keep
    · show id < 64
      have : id < ord.length := by
        by_cases h : id < ord.length
        · exact h
        · exfalso; apply hid; show renJ ord g.J id = none; unfold renJ; rw [if_neg h]
      omega
    · show MR B (renH ord st.H) w _
      refine ⟨fun id ob h => hJ h, fun id ob jo h1 h2 => f2 id ob jo h1 h2, fun id ob h => f1 id ob h, fun id id' ob ob' hne h1 h2 b hb hb' => ?_, fun id ob b h hl hj => ?_, fun hs id ob h hl b hb => ?_, fun id ob h b hb => ?_, s.m.lt, s.m.s0, s.m.s1, s.m.os, s.m.tape, s.m.output, s.m.size, s.m.fm, s.m.bs⟩
      · obtain ⟨q1, o1, p1, rfl⟩ := renH_some h1
        obtain ⟨q2, o2, p2, rfl⟩ := renH_some h2
        exact s.m.dj _ _ o1 o2 (fun e => hne (hinj id id' q1 q2 e)) p1 p2 b (f3 id b hb) (f3 id' b hb')
      · obtain ⟨q1, o1, p1, rfl⟩ := renH_some h
        have hj' : renJ ord g.J id = some (some b) := hj
        unfold renJ at hj'
        rw [if_pos q1] at hj'
        exact s.m.mu _ o1 b p1 hl hj'
      · obtain ⟨q1, o1, p1, rfl⟩ := renH_some h
        exact s.m.ms hs _ o1 p1 hl b (f3 id b hb)
      · obtain ⟨q1, o1, p1, rfl⟩ := renH_some h
        exact s.m.new _ o1 p1 b (f3 id b hb)
  · exact ⟨g, s⟩

end Go.Proofs.Ytclebbjpacpbmaa.Ev
