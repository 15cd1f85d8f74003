/- The abstract interpreter: code. Conditions: none. -/
import Derived.Test.YtclebbjpacpbmaaEvV
import Derived.Scope
import Derived.Test.YtclebbjpacpbmaaEvY
set_option linter.unusedVariables false
set_option linter.unusedSimpArgs false
namespace Go.Proofs.Ytclebbjpacpbmaa.Ev
open Go

def itemOk (nt : Nat) : Item → Bool
  | .code c | .inLoop c | .inScope c => codeOk nt c
  | _ => true

theorem exitTo_ok {nt l : Nat} : ∀ {k k' : List Item}, exitTo l k = some k' → k.all (itemOk nt) = true → k'.all (itemOk nt) = true
  | [], k', h, _ => by simp [exitTo] at h
  | x :: k, k', h, hk => by
    simp only [List.all_cons, Bool.and_eq_true] at hk
    cases x <;> simp only [exitTo] at h <;> first
      | exact exitTo_ok h hk.2
      | (split at h
         · injection h with h; subst h; exact hk.2
         · exact exitTo_ok h hk.2)

theorem findLabel_ok {nt : Nat} : ∀ {c : Code} {l : Nat} {r : Code}, findLabel c l = some r → codeOk nt c = true → codeOk nt r = true := by
  intro c
  induction c with
  | seq a b iha ihb =>
    intro l r h hc
    simp only [codeOk, Bool.and_eq_true] at hc
    simp only [findLabel] at h
    split at h
    · rename_i rest hr
      injection h with h
      subst h
      simp only [codeOk, Bool.and_eq_true]
      exact ⟨iha hr hc.1, hc.2⟩
    · exact ihb h hc.2
  | label l' =>
    intro l r h hc
    simp only [findLabel] at h
    split at h
    · injection h with h; subst h; rfl
    · cases h
  | _ => intro l r h hc; simp [findLabel] at h

theorem gotoIn_ok {nt l : Nat} : ∀ {k k' : List Item}, gotoIn l k = some k' → k.all (itemOk nt) = true → k'.all (itemOk nt) = true
  | [], k', h, _ => by simp [gotoIn] at h
  | x :: k, k', h, hk => by
    have hk0 := hk
    simp only [List.all_cons, Bool.and_eq_true] at hk
    cases x <;> simp only [gotoIn] at h <;> first
      | exact gotoIn_ok h hk.2
      | (split at h
         · rename_i rest hr
           injection h with h
           subst h
           simp only [List.all_cons, Bool.and_eq_true]
           exact ⟨findLabel_ok hr hk.1, hk.1, hk.2⟩
         · exact gotoIn_ok h hk.2)

section
variable {B : Beg} {P : Program}

/-- A region, as a step of the machine. -/
theorem region_sound {E : Env} {call : FuncId → List V → Option Res} (hm : E.P.follows .mixedOrders = true) (hc : ∀ f vals r, call f vals = some r → CallOk E.P f vals r) {id : Nat} {ops : Array Oper} {draw : Bool} (hok : codeOk B.nt (.region id ops draw) = true)
    {st st' : St} {ds : List D} {a : Act} {w : World} {g : Gh} (s : SR B st.fr st.H (fun id => id < st.nx) a w g) (e : runO E B.strict call ops.toList ops.toList 0 st [] = some (st', ds)) (hdr : draw = true → (statOk ops.toList && pairsOk E.modes ops.toList ds) = true)
    (b : Frame) (k : List Item) (cs : List Frame) : ∃ a' w' g', Steps E.P (lone (b.at a (.code (.region id ops draw) :: k)) cs w) (lone (b.at a' k) cs w') ∧ SR B st'.fr st'.H (fun id => id < st'.nx) a' w' g' := by
  have hd : ∀ o, o ∈ ops.toList → ∀ t, o.dst = some t → t < B.nt := fun o ho t ht => by
    simp only [codeOk] at hok
    have := List.all_eq_true.1 hok o ho
    simpa [ht] using this
  cases draw with
  | false =>
    have h := seq_sound hc hd (Q := fun e a' w' => e = .normal ∧ ∃ g', SR B st'.fr st'.H (fun id => id < st'.nx) a' w' g') ops.toList 0 st [] st' ds a w g (fun k hk => by
      rw [Nat.zero_add, Array.getElem?_eq_getElem (by simpa using hk)]
      simp) e (by simpa using s) (fun a' w' g' s' => ⟨rfl, g', s'⟩)
    rw [← List.range_eq_range', Array.length_toList] at h
    obtain ⟨en, a', w', ⟨rfl, g', s'⟩, harr⟩ := wp_ops _ a w h b k cs
    exact ⟨a', w', g', .head step_region harr, s'⟩
  | true =>
    have hdr' := hdr rfl
    rw [Bool.and_eq_true] at hdr'
    obtain ⟨hl, hst', hev⟩ := runO_stL (st0 := st) ops.toList 0 st [] st' ds (fun k hk => by rw [Nat.zero_add, List.getElem?_eq_getElem hk]) rfl rfl (fun k hk => by omega) e
    simp only [Nat.zero_add, Array.length_toList] at hl hst' hev
    obtain ⟨m1, p1⟩ := s.m.drew (w' := { w with drawn := w.drawn + 1 }) rfl rfl rfl rfl
    have hL0 : ∀ k, (Array.replicate ops.size false).getD k false = false := fun k => by
      simp only [Array.getD]
      split
      · simp
      · rfl
    have e0 : stL ops.toList ds st (fun k => (Array.replicate ops.size false).getD k false) ops.size = st := by
      have : ∀ n, stL ops.toList ds st (fun k => (Array.replicate ops.size false).getD k false) n = st := fun n => by
        induction n with
        | zero => rfl
        | succ n ih => rw [stL_no (L := fun k => (Array.replicate ops.size false).getD k false) (hL0 n), ih]
      exact this _
    have s1 : SR B st.fr st.H (fun id => id < st.nx) a { w with drawn := w.drawn + 1 } g := ⟨s.df, s.sz, fun t => (s.sl t).mono p1, s.ids, m1, fun p hp => (s.kp p hp).mono p1⟩
    have h := any_sound (B := B) hc hd hl hev hdr'.1 hdr'.2 (Q := fun e a' w' => e = .normal ∧ ∃ g', SR B st'.fr st'.H (fun id => id < st'.nx) a' w' g') (fun a' w' g' s' => ⟨rfl, g', by
        rw [hst']; exact s'⟩) ops.size (Array.replicate ops.size false) a { w with drawn := w.drawn + 1 } g (by simp) (fun k o _ hLk => by
        have := (hL0 k).symm.trans hLk
        cases this) (cnt_le _ _) (by
        rw [e0]
        exact ⟨s1.df, s1.sz, s1.sl, fun id h => .inl (s1.ids id h), s1.m, s1.kp⟩)
    obtain ⟨en, a', w', ⟨rfl, g', s'⟩, harr⟩ := (wp_region_any (id := id) hm h) b k cs
    exact ⟨a', w', g', harr, s'⟩

theorem head_sound {E : Env} {st : St} {a : Act} {w : World} {g : Gh} (s : SR B st.fr st.H (fun id => id < st.nx) a w g) (hk : E.reb = true → ∀ p, p ∈ B.keep → noId depth p.1 = true) (items : List Item) :
    ∃ g', SR B (headSt E items st).fr (headSt E items st).H (fun id => id < (headSt E items st).nx) a w g' := by
  unfold headSt
  split
  · rename_i hr
    exact s.canon (hk hr) _
  · exact ⟨g, s⟩

/-- Code. -/
theorem exec_sound {E : Env} {call : FuncId → List V → Option Res} (hm : E.P.follows .mixedOrders = true) (hc : ∀ f vals r, call f vals = some r → CallOk E.P f vals r) (hkp : E.reb = true → ∀ p, p ∈ B.keep → noId depth p.1 = true) (b : Frame) (cs : List Frame) :
    ∀ (n : Nat) (items : List Item) (st st' : St) (a : Act) (w : World) (g : Gh), execL E B.strict call n items st = some st' → SR B st.fr st.H (fun id => id < st.nx) a w g → items.all (itemOk B.nt) = true →
      ∃ a' w' g' todo, Steps E.P (lone (b.at a items) cs w) (lone { b.at a' todo with mode := .returning } cs w') ∧ SR B st'.fr st'.H (fun id => id < st'.nx) a' w' g' := by
  intro n
  induction n with
  | zero => intro items st st' a w g e; simp [execL] at e
  | succ n ih =>
    intro items st st' a w g e s hok
    unfold execL at e
    have one : ∀ {items' : List Item} {a' : Act} {w' : World} {g' : Gh} {st1 : St}, Steps E.P (lone (b.at a items) cs w) (lone (b.at a' items') cs w') → execL E B.strict call n items' st1 = some st' → SR B st1.fr st1.H (fun id => id < st1.nx) a' w' g' → items'.all (itemOk B.nt) = true →
        ∃ a' w' g' todo, Steps E.P (lone (b.at a items) cs w) (lone { b.at a' todo with mode := .returning } cs w') ∧ SR B st'.fr st'.H (fun id => id < st'.nx) a' w' g' := fun hs e s ho => by
      obtain ⟨a', w', g', todo, h1, h2⟩ := ih _ _ _ _ _ _ e s ho
      exact ⟨a', w', g', todo, hs.trans h1, h2⟩
    split at e
    · injection e with e
      subst e
      exact ⟨a, w, g, [], .one step_end, s⟩
    · injection e with e
      subst e
      exact ⟨a, w, g, _, .one step_ret, s⟩
    all_goals try simp only [List.all_cons, Bool.and_eq_true, itemOk, codeOk] at hok
    · exact one (.one step_skip) e s hok.2
    · exact one (.one step_label) e s hok.2
    · exact one (.one step_inBlock) e s hok.2
    · exact one (.one step_inScope) e s hok.2
    · exact one (.one step_seq) e s (by simp only [List.all_cons, Bool.and_eq_true, itemOk]; exact ⟨hok.1.1, hok.1.2, hok.2⟩)
    · split at e
      · rename_i t ht
        refine one (.one (step_cond (t := t) (ev_sound s.sl ht).bool_inv)) e s ?_
        simp only [List.all_cons, Bool.and_eq_true, itemOk]
        refine ⟨?_, hok.2⟩
        cases t
        · exact hok.1.2
        · exact hok.1.1
      · cases e
    · exact one (.one step_block) e s (by simp only [List.all_cons, Bool.and_eq_true, itemOk]; exact ⟨hok.1, trivial, hok.2⟩)
    · obtain ⟨g', s'⟩ := head_sound s hkp _
      exact one (.one step_loop) e s' (by simp only [List.all_cons, Bool.and_eq_true, itemOk]; exact ⟨hok.1, hok.1, hok.2⟩)
    · obtain ⟨g', s'⟩ := head_sound s hkp _
      exact one (.one step_inLoop) e s' (by simp only [List.all_cons, Bool.and_eq_true, itemOk]; exact ⟨hok.1, hok.1, hok.2⟩)
    · exact one (.one step_scope) e s (by simp only [List.all_cons, Bool.and_eq_true, itemOk]; exact ⟨hok.1, hok.1, hok.2⟩)
    · split at e
      · rename_i k' hk
        exact one (.one (step_exit hk)) e s (exitTo_ok hk hok.2)
      · cases e
    · split at e
      · rename_i k' hk
        exact one (.one (step_goto hk)) e s (gotoIn_ok hk hok.2)
      · cases e
    · rename_i rid ops draw k
      split at e
      · rename_i st1 ds hr
        split at e
        · cases e
        · rename_i hdr
          obtain ⟨a', w', g', hs, s'⟩ := region_sound (id := rid) (ops := ops) (draw := draw) hm hc (by simpa only [codeOk] using hok.1) s hr (fun hd => by
            rw [hd] at hdr
            simpa using hdr) b _ cs
          exact one hs e s' hok.2
      · cases e
    · cases e
end

end Go.Proofs.Ytclebbjpacpbmaa.Ev
