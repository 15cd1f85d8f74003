/- The abstract interpreter: values handed over, taken in, seen. Conditions: none. -/
import Derived.Test.YtclebbjpacpbmaaEvC
set_option linter.unusedVariables false
set_option linter.unusedSimpArgs false
namespace Go.Proofs.Ytclebbjpacpbmaa.Ev
open Go

theorem mapM_cons_some {α β : Type} {f : α → Option β} {a : α} {l : List α} {r : List β} (h : (a :: l).mapM f = some r) : ∃ b r', f a = some b ∧ l.mapM f = some r' ∧ r = b :: r' := by
  rw [List.mapM_cons] at h
  cases hf : f a with
  | none => rw [hf] at h; cases h
  | some b =>
    cases hl : l.mapM f with
    | none => rw [hf, hl] at h; cases h
    | some r' =>
      rw [hf, hl] at h
      injection h with h
      exact ⟨b, r', rfl, rfl, h.symm⟩

theorem mapM_len {α β : Type} {f : α → Option β} : ∀ {l : List α} {r : List β}, l.mapM f = some r → r.length = l.length
  | [], r, h => by simp at h; subst h; rfl
  | a :: l, r, h => by
    obtain ⟨b, r', _, hl, rfl⟩ := mapM_cons_some h
    simp [mapM_len hl]

theorem mapM_at {α β : Type} {f : α → Option β} : ∀ {l : List α} {r : List β}, l.mapM f = some r → ∀ (k : Nat) (hk : k < l.length) (hk' : k < r.length), f l[k] = some r[k]
  | [], r, h, k, hk, _ => by simp at hk
  | a :: l, r, h, k, hk, hk' => by
    obtain ⟨b, r', hb, hl, rfl⟩ := mapM_cons_some h
    cases k with
    | zero => exact hb
    | succ k => exact mapM_at hl k (by simpa using hk) (by simpa using hk')

/-! ### Operands -/
theorem ofS_sound {w : World} {S : Nat → Prop} {x : Value} {v : V} (h : V.ofS x = some v) : PR w S v x := by
  unfold V.ofS at h
  split at h <;> first | (injection h with h; subst h; constructor) | cases h

theorem ofS_one {x : Value} {v : V} (h : V.ofS x = some v) : x.oneCell' = true := by
  unfold V.ofS at h
  split at h <;> first | rfl | cases h

theorem ofC_sound {w : World} {S : Nat → Prop} {J : Nat → Option (Option Nat)} {H : Nat → Option Ob} {x : Value} {v : V} (h : V.ofC x = some v) : VR w S J H v x := by
  refine .pure ?_
  unfold V.ofC at h
  split at h
  · rename_i cs
    obtain ⟨r, hr, rfl⟩ := Option.map_eq_some_iff.1 h
    have hl := mapM_len hr
    have key : ∀ k (hk : k < r.length), PR w S r[k] (cs.getD k Go.undef) ∧ (cs.getD k Go.undef).oneCell' = true := fun k hk => by
      have hk' : k < cs.toList.length := by omega
      have hm := mapM_at hr k hk' hk
      have hg : cs.getD k Go.undef = cs.toList[k] := by
        have : k < cs.size := by simpa using hk'
        simp [Array.getD, this]
      rw [hg]
      exact ⟨ofS_sound hm, ofS_one hm⟩
    exact .agg (by simpa using hl) (fun k hk => (key k hk).1) fun k hk => (key k hk).2
  · rename_i cs
    split at h
    · injection h with h
      subst h
      have : cs = #[] := Array.eq_empty_of_size_eq_zero (by assumption)
      subst this
      exact .undef
    · cases h
  · exact ofS_sound h

theorem ev_sound {w : World} {S : Nat → Prop} {J : Nat → Option (Option Nat)} {H : Nat → Option Ob} {fr : Nat → V} {a : Act} (sl : ∀ t, VR w S J H (fr t) (a.tmps.getD t Go.undef)) {x : Operand} {v : V} (h : ev fr x = some v) :
    VR w S J H v (a.eval x) := by
  cases x with
  | tmp t => simp only [ev, Option.some.injEq] at h; subst h; exact sl t
  | const c => exact ofC_sound h
  | global g => simp [ev] at h
  | func f =>
    simp only [ev, Option.some.injEq] at h
    subst h
    exact .pure (.func rfl rfl (fun k hk => by simp at hk) (fun k hk => by simp at hk))

/-! ### Trees as values that are only read -/
theorem getD_of {arr : Array Value} {k : Nat} (h : k < arr.size) : arr[k]? = some (arr.getD k Go.undef) := by
  simp [Array.getD, h]

theorem cell_at {w : World} {b k : Nat} {arr : Array Value} {e : TypeId} {fr : Nat × Nat} (hb : w.heap[b]? = some (.cells arr e fr)) (h : k < arr.size) : w.cell? ⟨b, k, none⟩ = some (arr.getD k Go.undef) := by
  simp only [World.cell?, hb]
  simpa using getD_of h

theorem addr_add (b o k : Nat) : (⟨b, o, none⟩ : Addr).add k = ⟨b, o + k, none⟩ := by
  unfold Addr.add
  split <;> simp_all

theorem PR.pur {w : World} {H : Nat → Option Ob} {S S' : Nat → Prop} (hS : ∀ b, S b → S' b) {v : V} {x : Value} (h : PR w S v x) : ∀ (k : Nat) {u : V}, purN H k v = some u → PR w S' u x := by
  intro k u
  induction h generalizing k u with
  | nils A =>
    intro hu
    have : u = .list 0 [] := by cases k <;> simp [purN] at hu <;> exact hu.symm
    subst this
    exact .list (fun _ => Go.undef) (.inl rfl) (Nat.le_refl _) (by simp [maxLen]) (fun k hk => by simp at hk) fun k hk => by simp at hk
  | @list n c cs A f hd hn hm h h1 ih =>
    intro hu
    have : u = .list n cs := by cases k <;> simp [purN] at hu <;> exact hu.symm
    subst this
    exact PR.mono hS (fun _ _ => rfl) (.list f hd hn hm h h1)
  | @ref cs off ad f hs hd h h1 ih =>
    intro hu
    have : u = .ref cs off := by cases k <;> simp [purN] at hu <;> exact hu.symm
    subst this
    exact PR.mono hS (fun _ _ => rfl) (.ref f hs hd h h1)
  | func h1 h2 hf hc ihf ihc =>
    intro hu
    cases k with
    | zero => simp [purN] at hu
    | succ k =>
      simp only [purN] at hu
      split at hu
      · rename_i fi' ca' e1 e2
        injection hu with hu
        subst hu
        have l1 := mapM_len e1
        have l2 := mapM_len e2
        exact .func (by omega) (by omega) (fun j hj => ihf j (by omega) _ (mapM_at e1 j (by omega) hj)) (fun j hj => ihc j (by omega) _ (mapM_at e2 j (by omega) hj))
      · cases hu
  | iface h ih =>
    intro hu
    cases k with
    | zero => simp [purN] at hu
    | succ k =>
      simp only [purN] at hu
      obtain ⟨u', hu', rfl⟩ := Option.map_eq_some_iff.1 hu
      exact .iface (ih _ hu')
  | agg hl h h1 ih =>
    intro hu
    cases k with
    | zero => simp [purN] at hu
    | succ k =>
      simp only [purN] at hu
      obtain ⟨us, hus, rfl⟩ := Option.map_eq_some_iff.1 hu
      have hlen := mapM_len hus
      exact .agg (by omega) (fun j hj => ih j (by omega) _ (mapM_at hus j (by omega) hj)) fun j hj => h1 j (by omega)
  | tup hl h ih =>
    intro hu
    cases k with
    | zero => simp [purN] at hu
    | succ k =>
      simp only [purN] at hu
      obtain ⟨us, hus, rfl⟩ := Option.map_eq_some_iff.1 hu
      have hlen := mapM_len hus
      exact .tup (by omega) fun j hj => ih j (by omega) _ (mapM_at hus j (by omega) hj)
  | _ => intro hu; cases k <;> simp [purN] at hu <;> subst hu <;> constructor

theorem TR.view {w : World} {S0 : Nat → Prop} {v : V} {x : Value} {fp : List Nat} (h : TR w S0 v x fp) {S : Nat → Prop} (h0 : ∀ b, S0 b → S b) : ∀ {k : Nat} {u : V}, (∀ b, b ∈ fp → S b) → viewN k v = some u → PR w S u x := by
  induction h with
  | @uniq sz n c b cs arr e fr fp hb hz hl hc hn hm hc1 h h1 ih =>
    intro k u hS hu
    cases k with
    | zero => simp [viewN] at hu
    | succ k =>
      simp only [viewN] at hu
      obtain ⟨us, hus, rfl⟩ := Option.map_eq_some_iff.1 hu
      have hlen := mapM_len hus
      have hsz : ∀ j, j < us.length → j < _ := fun j hj => by
        have h1 := Nat.mul_le_mul_right sz hn
        exact Nat.lt_of_lt_of_le hj (by rw [hlen, hl]; exact Nat.le_trans h1 hc)
      refine .list (fun j => arr.getD j Go.undef) (.inr ⟨_, rfl, hS _ (List.mem_cons_self ..), fun j hj => ?_⟩) hn hm (fun j hj => ?_) fun j hj => h1 j (by omega)
      · rw [addr_add, Nat.zero_add]
        exact cell_at hb (hsz j hj)
      · exact ih j (by omega) (fun b hb' => hS b (List.mem_cons_of_mem _ (mem_fm.2 ⟨j, by omega, hb'⟩))) (mapM_at hus j (by omega) hj)
  | uptr fp hb hz hl h h1 ih => intro k u hS hu; cases k <;> simp [viewN] at hu
  | agg fp hl h h1 ih => intro k u hS hu; cases k <;> simp [viewN] at hu
  | tup fp hl h ih => intro k u hS hu; cases k <;> simp [viewN] at hu
  | unil sz A =>
    intro k u hS hu
    cases k with
    | zero => simp [viewN] at hu
    | succ k =>
      simp [viewN] at hu
      subst hu
      exact .list (fun _ => Go.undef) (.inl rfl) (Nat.le_refl _) (by simp [maxLen]) (fun k hk => by simp at hk) fun k hk => by simp at hk
  | pr h =>
    intro k u hS hu
    have h1 := h.mono h0 fun _ _ => rfl
    cases h <;> cases k <;> simp [viewN] at hu <;> subst hu <;> exact h1

theorem TR.pur {w : World} {H : Nat → Option Ob} {S0 : Nat → Prop} {v : V} {x : Value} {fp : List Nat} (h : TR w S0 v x fp) {S : Nat → Prop} (h0 : ∀ b, S0 b → S b) : ∀ {k : Nat} {u : V}, (∀ b, b ∈ fp → S b) → purN H k v = some u → PR w S u x := by
  induction h with
  | @uniq sz n c b cs arr e fr fp hb hz hl hc hn hm hc1 h h1 ih =>
    intro k u hS hu
    cases k with
    | zero => simp [purN] at hu
    | succ k =>
      simp only [purN] at hu
      obtain ⟨us, hus, rfl⟩ := Option.map_eq_some_iff.1 hu
      have hlen := mapM_len hus
      have hsz : ∀ j, j < us.length → j < _ := fun j hj => by
        have h1 := Nat.mul_le_mul_right sz hn
        exact Nat.lt_of_lt_of_le hj (by rw [hlen, hl]; exact Nat.le_trans h1 hc)
      refine .list (fun j => arr.getD j Go.undef) (.inr ⟨_, rfl, hS _ (List.mem_cons_self ..), fun j hj => ?_⟩) hn hm (fun j hj => ?_) fun j hj => h1 j (by omega)
      · rw [addr_add, Nat.zero_add]
        exact cell_at hb (hsz j hj)
      · exact ih j (by omega) (fun b hb' => hS b (List.mem_cons_of_mem _ (mem_fm.2 ⟨j, by omega, hb'⟩))) (mapM_at hus j (by omega) hj)
  | uptr fp hb hz hl h h1 ih => intro k u hS hu; cases k <;> simp [purN] at hu
  | agg fp hl h h1 ih =>
    intro k u hS hu
    cases k with
    | zero => simp [purN] at hu
    | succ k =>
      simp only [purN] at hu
      obtain ⟨us, hus, rfl⟩ := Option.map_eq_some_iff.1 hu
      have hlen := mapM_len hus
      exact .agg (by omega) (fun j hj => ih j (by omega) (fun b hb' => hS b (mem_fm.2 ⟨j, by omega, hb'⟩)) (mapM_at hus j (by omega) hj)) fun j hj => h1 j (by omega)
  | tup fp hl h ih =>
    intro k u hS hu
    cases k with
    | zero => simp [purN] at hu
    | succ k =>
      simp only [purN] at hu
      obtain ⟨us, hus, rfl⟩ := Option.map_eq_some_iff.1 hu
      have hlen := mapM_len hus
      exact .tup (by omega) fun j hj => ih j (by omega) (fun b hb' => hS b (mem_fm.2 ⟨j, by omega, hb'⟩)) (mapM_at hus j (by omega) hj)
  | unil sz A =>
    intro k u hS hu
    cases k with
    | zero => simp [purN] at hu
    | succ k =>
      simp [purN] at hu
      subst hu
      exact .list (fun _ => Go.undef) (.inl rfl) (Nat.le_refl _) (by simp [maxLen]) (fun k hk => by simp at hk) fun k hk => by simp at hk
  | pr h => intro k u hS hu; exact h.pur h0 k hu

theorem getO_some {H : Nat → Option Ob} {id ver : Nat} {ob : Ob} (h : getO H id ver = some ob) : H id = some ob ∧ ob.ver = ver := by
  unfold getO at h
  split at h
  · split at h
    · injection h with h; subst h; exact ⟨by assumption, by assumption⟩
    · cases h
  · cases h

theorem take_drop_at {α : Type} {l : List α} {o n k : Nat} (h : k < ((l.drop o).take n).length) : o + k < l.length ∧ ∀ h', ((l.drop o).take n)[k] = l[o + k]'h' := by
  have h1 : k < n ∧ k < l.length - o := by
    have := h
    simp only [List.length_take, List.length_drop] at this
    omega
  refine ⟨by omega, fun h' => ?_⟩
  simp [List.getElem_take, List.getElem_drop]

section
variable {B : Beg} {H : Nat → Option Ob} {w : World} {g : Gh}

/-- A value, its own objects seen as slices that are only read. -/
theorem pur_sound (m : MR B H w g) {S' : Nat → Prop} (hS : ∀ b, g.S b → S' b) : ∀ (k : Nat) {v : V} {x : Value} {u : V}, VR w g.S g.J H v x → purN H k v = some u → (∀ id, id ∈ idsN H k v → ∀ b, b ∈ g.F id → S' b) → PR w S' u x := by
  intro k
  induction k with
  | zero =>
    intro v x u h hu hid
    cases h with
    | pure h => exact h.pur hS 0 hu
    | _ => simp [purN] at hu
  | succ k ih =>
    intro v x u h hu hid
    have cellCase : ∀ {c : V} {y : Value} {fp : List Nat} {u' : V}, CR w g.S g.J H c y fp → purN H k c = some u' → (∀ b, b ∈ fp → S' b) → (∀ id, id ∈ idsN H k c → ∀ b, b ∈ g.F id → S' b) → PR w S' u' y := by
      intro c y fp u' hc hu' hfp hid'
      rcases hc with ⟨hc, _⟩ | hc
      · exact ih hc hu' hid'
      · exact hc.pur hS hfp hu'
    cases h with
    | any x => simp [purN] at hu
    | pure h => exact h.pur hS _ hu
    | @sl id ver off len c A hj hlc hcm hA0 h =>
      simp only [purN] at hu
      simp only [idsN] at hid
      split at hu
      · rename_i ob hob
        simp only [hob] at hid
        obtain ⟨hH, hver⟩ := getO_some hob
        split at hu
        · rename_i hfit
          obtain ⟨us, hus, rfl⟩ := Option.map_eq_some_iff.1 hu
          have hlen := mapM_len hus
          rcases (h ob hH).2 hver with ⟨hc0, hl0, _⟩ | ⟨hc1, b, hJ, hA, hcap⟩
          · subst hc0; subst hl0
            have : us = [] := List.eq_nil_of_length_eq_zero (by rw [hlen]; simp)
            subst this
            exact .list (fun _ => Go.undef) (.inl rfl) (Nat.le_refl _) (by simp [maxLen]) (fun k hk => by simp at hk) fun k hk => by simp at hk
          · subst hA
            obtain ⟨arr, e, fr, fp, hb, hz, hal, hcells, h1, hF⟩ := m.ob id ob _ hH hJ
            refine .list (fun j => arr.getD (off + j) Go.undef) (.inr ⟨_, rfl, hid id (List.mem_cons_self ..) b (by rw [hF]; exact List.mem_cons_self ..), fun j hj => ?_⟩) hlc hcm (fun j hj => ?_) fun j hj => h1 (off + j) (take_drop_at (l := ob.cells) (o := off) (n := len * ob.sz) (k := j) (by omega)).1
            · rw [addr_add]
              have := (take_drop_at (l := ob.cells) (o := off) (n := len * ob.sz) (k := j) (by omega)).1
              exact cell_at hb (by omega)
            · have hj' : j < ((ob.cells.drop off).take (len * ob.sz)).length := by omega
              obtain ⟨hin, hget⟩ := take_drop_at hj'
              have hu' := mapM_at hus j hj' hj
              have hg := hget hin
              rw [hg] at hu'
              refine cellCase (hcells (off + j) hin) hu' (fun b' hb' => hid id (List.mem_cons_self ..) b' (by rw [hF]; exact List.mem_cons_of_mem _ (mem_fm.2 ⟨_, hin, hb'⟩))) fun id' hid' => hid id' ?_
              refine List.mem_cons_of_mem _ (List.mem_flatMap.2 ⟨_, List.getElem_mem hj', ?_⟩)
              rw [hg]; exact hid'
        · cases hu
      · cases hu
    | @ptr id ver off a hj h =>
      simp only [purN] at hu
      simp only [idsN] at hid
      split at hu
      · rename_i ob hob
        simp only [hob] at hid
        obtain ⟨hH, hver⟩ := getO_some hob
        obtain ⟨us, hus, rfl⟩ := Option.map_eq_some_iff.1 hu
        have hlen := mapM_len hus
        obtain ⟨b, hJ, rfl⟩ := (h ob hH).2 hver
        obtain ⟨arr, e, fr, fp, hb, hz, hal, hcells, h1, hF⟩ := m.ob id ob _ hH hJ
        have hadd : (⟨b, off, none⟩ : Addr) = (⟨b, 0, none⟩ : Addr).add off := by rw [addr_add, Nat.zero_add]
        rw [hadd]
        refine .ref (fun j => arr.getD j Go.undef) (hid id (List.mem_cons_self ..) b (by rw [hF]; exact List.mem_cons_self ..)) (fun j hj => ?_) (fun j hj => ?_) fun j hj => h1 j (by omega)
        · rw [addr_add, Nat.zero_add]; exact cell_at hb (by omega)
        · have hj' : j < ob.cells.length := by omega
          refine cellCase (hcells j hj') (mapM_at hus j hj' hj) (fun b' hb' => hid id (List.mem_cons_self ..) b' (by rw [hF]; exact List.mem_cons_of_mem _ (mem_fm.2 ⟨_, hj', hb'⟩))) fun id' hid' => hid id' ?_
          exact List.mem_cons_of_mem _ (List.mem_flatMap.2 ⟨_, List.getElem_mem hj', hid'⟩)
      · cases hu
    | func h1 h2 hf hc =>
      simp only [purN] at hu
      simp only [idsN] at hid
      split at hu
      · rename_i fi' ca' e1 e2
        injection hu with hu
        subst hu
        have l1 := mapM_len e1
        have l2 := mapM_len e2
        exact .func (by omega) (by omega)
          (fun j hj => ih (hf j (by omega)) (mapM_at e1 j (by omega) hj) fun id' hid' => hid id' (List.mem_append.2 (.inl (List.mem_flatMap.2 ⟨_, List.getElem_mem (by omega), hid'⟩))))
          (fun j hj => ih (hc j (by omega)) (mapM_at e2 j (by omega) hj) fun id' hid' => hid id' (List.mem_append.2 (.inr (List.mem_flatMap.2 ⟨_, List.getElem_mem (by omega), hid'⟩))))
      · cases hu
    | iface h =>
      simp only [purN] at hu
      simp only [idsN] at hid
      obtain ⟨u', hu', rfl⟩ := Option.map_eq_some_iff.1 hu
      exact .iface (ih h hu' hid)
    | agg hl h h1 =>
      simp only [purN] at hu
      simp only [idsN] at hid
      obtain ⟨us, hus, rfl⟩ := Option.map_eq_some_iff.1 hu
      have hlen := mapM_len hus
      exact .agg (by omega) (fun j hj => ih (h j (by omega)) (mapM_at hus j (by omega) hj) fun id' hid' => hid id' (List.mem_flatMap.2 ⟨_, List.getElem_mem (by omega), hid'⟩)) fun j hj => h1 j (by omega)
    | tup hl h =>
      simp only [purN] at hu
      simp only [idsN] at hid
      obtain ⟨us, hus, rfl⟩ := Option.map_eq_some_iff.1 hu
      have hlen := mapM_len hus
      exact .tup (by omega) fun j hj => ih (h j (by omega)) (mapM_at hus j (by omega) hj) fun id' hid' => hid id' (List.mem_flatMap.2 ⟨_, List.getElem_mem (by omega), hid'⟩)


/-! ### Values as trees -/
theorem nodup_flatMap_at {α : Type} {f : α → List Nat} : ∀ {l : List α}, (l.flatMap f).Nodup → (∀ j (hj : j < l.length), (f l[j]).Nodup) ∧ ∀ i j (hi : i < l.length) (hj : j < l.length), i ≠ j → ∀ b, b ∈ f l[i] → b ∉ f l[j]
  | [], _ => ⟨fun j hj => by simp at hj, fun i j hi => by simp at hi⟩
  | a :: l, h => by
    rw [List.flatMap_cons, List.nodup_append] at h
    obtain ⟨h1, h2, h3⟩ := h
    obtain ⟨i1, i2⟩ := nodup_flatMap_at h2
    refine ⟨fun j hj => ?_, fun i j hi hj hne b hb hb' => ?_⟩
    · cases j with
      | zero => exact h1
      | succ j => exact i1 j (by simpa using hj)
    · cases i with
      | zero =>
        cases j with
        | zero => exact hne rfl
        | succ j => exact h3 b hb b (List.mem_flatMap.2 ⟨_, List.getElem_mem (by simpa using hj), hb'⟩) rfl
      | succ i =>
        cases j with
        | zero => exact h3 b hb' b (List.mem_flatMap.2 ⟨_, List.getElem_mem (by simpa using hi), hb⟩) rfl
        | succ j => exact i2 i j (by simpa using hi) (by simpa using hj) (by omega) b hb hb'

theorem choose_fp {n : Nat} {p : Nat → List Nat → Prop} (h : ∀ j, j < n → ∃ f, p j f) : ∃ fp : Nat → List Nat, ∀ j, j < n → p j (fp j) := by
  classical
  refine ⟨fun j => if hj : j < n then (h j hj).choose else [], fun j hj => ?_⟩
  simp only [hj, dif_pos]
  exact (h j hj).choose_spec

theorem fm_nil (n : Nat) : (List.range n).flatMap (fun _ => ([] : List Nat)) = [] := by
  induction n with
  | zero => rfl
  | succ n ih => rw [List.range_succ, List.flatMap_append, ih]; rfl

/-- A tree stays one. -/
theorem TR.exp {w : World} {H : Nat → Option Ob} {S : Nat → Prop} {v : V} {x : Value} {fp : List Nat} (h : TR w S v x fp) : ∀ {k : Nat} {u : V}, expN H k v = some u → TR w S u x fp := by
  have leaf : ∀ {k : Nat} {v u : V}, (if treeN k v || isLR v then some v else none) = some u → v = u := by
    intro k v u h
    split at h
    · injection h
    · cases h
  induction h with
  | pr h =>
    intro k u hu
    refine .pr ?_
    induction h generalizing k u with
    | agg hl h h1 ih =>
      cases k with
      | zero => simp [expN, treeN, isLR] at hu
      | succ k =>
        simp only [expN] at hu
        obtain ⟨us, hus, rfl⟩ := Option.map_eq_some_iff.1 hu
        have hlen := mapM_len hus
        exact .agg (by omega) (fun j hj => ih j (by omega) (mapM_at hus j (by omega) hj)) fun j hj => h1 j (by omega)
    | tup hl h ih =>
      cases k with
      | zero => simp [expN, treeN, isLR] at hu
      | succ k =>
        simp only [expN] at hu
        obtain ⟨us, hus, rfl⟩ := Option.map_eq_some_iff.1 hu
        have hlen := mapM_len hus
        exact .tup (by omega) fun j hj => ih j (by omega) (mapM_at hus j (by omega) hj)
    | list f hd hn hm h h1 ih => cases k <;> (simp only [expN] at hu; have := leaf hu; subst this; exact .list f hd hn hm h h1)
    | ref f hs hd h h1 ih => cases k <;> (simp only [expN] at hu; have := leaf hu; subst this; exact .ref f hs hd h h1)
    | func h1 h2 hf hc ihf ihc => cases k <;> (simp only [expN] at hu; have := leaf hu; subst this; exact .func h1 h2 hf hc)
    | iface h ih => cases k <;> (simp only [expN] at hu; have := leaf hu; subst this; exact .iface h)
    | _ => cases k <;> (simp only [expN] at hu; have := leaf hu; subst this; constructor)
  | unil sz A => intro k u hu; cases k <;> (simp only [expN] at hu; have := leaf hu; subst this; exact .unil sz A)
  | uniq fp hb hz hl hc hn hm hc1 h h1 ih => intro k u hu; cases k <;> (simp only [expN] at hu; have := leaf hu; subst this; exact .uniq fp hb hz hl hc hn hm hc1 h h1)
  | uptr fp hb hz hl h h1 ih => intro k u hu; cases k <;> (simp only [expN] at hu; have := leaf hu; subst this; exact .uptr fp hb hz hl h h1)
  | agg fp hl h h1 ih =>
    intro k u hu
    cases k with
    | zero => simp only [expN] at hu; have := leaf hu; subst this; exact .agg fp hl h h1
    | succ k =>
      simp only [expN] at hu
      obtain ⟨us, hus, rfl⟩ := Option.map_eq_some_iff.1 hu
      have hlen := mapM_len hus
      rw [← hlen]
      exact .agg fp (by omega) (fun j hj => ih j (by omega) (mapM_at hus j (by omega) hj)) fun j hj => h1 j (by omega)
  | tup fp hl h ih =>
    intro k u hu
    cases k with
    | zero => simp only [expN] at hu; have := leaf hu; subst this; exact .tup fp hl h
    | succ k =>
      simp only [expN] at hu
      obtain ⟨us, hus, rfl⟩ := Option.map_eq_some_iff.1 hu
      have hlen := mapM_len hus
      rw [← hlen]
      exact .tup fp (by omega) fun j hj => ih j (by omega) (mapM_at hus j (by omega) hj)

/-- Without leaves that are only read a tree is one whatever is only read. -/
theorem TR.strict {w : World} {S : Nat → Prop} {v : V} {x : Value} {fp : List Nat} (h : TR w S v x fp) : ∀ {k : Nat} (S' : Nat → Prop), treeN k v = true → TR w S' v x fp := by
  induction h with
  | pr h =>
    intro k S' ht
    refine .pr ?_
    induction h generalizing k with
    | agg hl h h1 ih =>
      cases k with
      | zero => simp [treeN] at ht
      | succ k => simp only [treeN, List.all_eq_true] at ht; exact .agg hl (fun j hj => ih j hj (ht _ (List.getElem_mem hj))) h1
    | tup hl h ih =>
      cases k with
      | zero => simp [treeN] at ht
      | succ k => simp only [treeN, List.all_eq_true] at ht; exact .tup hl fun j hj => ih j hj (ht _ (List.getElem_mem hj))
    | list f hd hn hm h h1 ih => cases k <;> simp [treeN] at ht
    | ref f hs hd h h1 ih => cases k <;> simp [treeN] at ht
    | func h1 h2 hf hc ihf ihc => cases k <;> simp [treeN] at ht
    | iface h ih => cases k <;> simp [treeN] at ht
    | _ => constructor
  | unil sz A => intro k S' ht; exact .unil sz A
  | uniq fp hb hz hl hc hn hm hc1 h h1 ih =>
    intro k S' ht
    cases k with
    | zero => simp [treeN] at ht
    | succ k => simp only [treeN, List.all_eq_true] at ht; exact .uniq fp hb hz hl hc hn hm hc1 (fun j hj => ih j hj S' (ht _ (List.getElem_mem hj))) h1
  | uptr fp hb hz hl h h1 ih =>
    intro k S' ht
    cases k with
    | zero => simp [treeN] at ht
    | succ k => simp only [treeN, List.all_eq_true] at ht; exact .uptr fp hb hz hl (fun j hj => ih j hj S' (ht _ (List.getElem_mem hj))) h1
  | agg fp hl h h1 ih =>
    intro k S' ht
    cases k with
    | zero => simp [treeN] at ht
    | succ k => simp only [treeN, List.all_eq_true] at ht; exact .agg fp hl (fun j hj => ih j hj S' (ht _ (List.getElem_mem hj))) h1
  | tup fp hl h ih =>
    intro k S' ht
    cases k with
    | zero => simp [treeN] at ht
    | succ k => simp only [treeN, List.all_eq_true] at ht; exact .tup fp hl fun j hj => ih j hj S' (ht _ (List.getElem_mem hj))

/-- What a value has given away, as blocks. -/
def Given (H : Nat → Option Ob) (g : Gh) (ids : List Nat) (fp : List Nat) : Prop :=
  fp.Nodup ∧ (∀ b, b ∈ fp → ∃ id, id ∈ ids ∧ b ∈ g.F id ∧ (H id).isSome = true)

theorem given_list {H : Nat → Option Ob} {w : World} {B : Beg} {g : Gh} (m : MR B H w g) {n : Nat} {fp : Nat → List Nat} {ids : Nat → List Nat}
    (h : ∀ j, j < n → Given H g (ids j) (fp j)) (hne : ∀ i j, i < n → j < n → i ≠ j → ∀ a, a ∈ ids i → a ∉ ids j) : ((List.range n).flatMap fp).Nodup := by
  refine nodup_fm.2 ⟨fun k hk => (h k hk).1, fun i j hij hj b hb hb' => ?_⟩
  obtain ⟨a, ha, hba, hsa⟩ := (h i (by omega)).2 b hb
  obtain ⟨c, hc, hbc, hsc⟩ := (h j hj).2 b hb'
  obtain ⟨oa, hoa⟩ := Option.isSome_iff_exists.1 hsa
  obtain ⟨oc, hoc⟩ := Option.isSome_iff_exists.1 hsc
  by_cases e : a = c
  · subst e
    exact hne i j (by omega) hj (by omega) a ha hc
  · exact m.dj a c oa oc e hoa hoc b hba hbc

/-- A cell of an object, as a tree; 'own': what the cell owned itself. -/
theorem exp_sound (m : MR B H w g) : ∀ (k : Nat) {v : V} {x : Value} {u : V}, VR w g.S g.J H v x → expN H k v = some u → (eidN H k v).Nodup → ∃ fp, TR w g.S u x fp ∧ Given H g (eidN H k v) fp := by
  have leaf : ∀ {k : Nat} {v u : V}, (if treeN k v || isLR v then some v else none) = some u → v = u ∧ (treeN k v || isLR v) = true := by
    intro k v u h
    split at h
    · injection h with h; exact ⟨h, by assumption⟩
    · cases h
  have nogive : Given H g [] [] := ⟨List.nodup_nil, fun b hb => by cases hb⟩
  intro k
  induction k with
  | zero =>
    intro v x u h hu hn
    cases h with
    | pure h => exact ⟨[], (TR.pr h).exp hu, by simpa [eidN] using nogive⟩
    | any x => simp [expN, treeN, isLR] at hu
    | sl hj hlc hcm hA0 h => simp [expN, treeN, isLR] at hu
    | ptr hj h => simp [expN, treeN, isLR] at hu
    | func h1 h2 hf hc => simp [expN, treeN, isLR] at hu
    | iface h => simp [expN, treeN, isLR] at hu
    | agg hl h => simp [expN, treeN, isLR] at hu
    | tup hl h => simp [expN, treeN, isLR] at hu
  | succ k ih =>
    intro v x u h hu hn
    cases h with
    | any x => simp [expN, treeN, isLR] at hu
    | pure h =>
      have : ∀ {v : V}, PR w g.S v x → ∀ {u : V}, expN H (k + 1) v = some u → Given H g (eidN H (k + 1) v) [] := fun _ _ _ => ⟨List.nodup_nil, fun b hb => by cases hb⟩
      exact ⟨[], (TR.pr h).exp hu, this h hu⟩
    | ptr hj h => simp [expN, treeN, isLR] at hu
    | func h1 h2 hf hc => simp [expN, treeN, isLR] at hu
    | iface h => simp [expN, treeN, isLR] at hu
    | @agg cs arr hl h h1 =>
      simp only [expN] at hu
      simp only [eidN] at hn ⊢
      obtain ⟨us, hus, rfl⟩ := Option.map_eq_some_iff.1 hu
      have hlen := mapM_len hus
      obtain ⟨n1, n2⟩ := nodup_flatMap_at hn
      have H1 : ∀ j, j < us.length → ∃ f, ∀ (hj : j < us.length) (hj2 : j < cs.length), TR w g.S us[j] (arr.getD j Go.undef) f ∧ Given H g (eidN H k cs[j]) f := fun j hj => by
        obtain ⟨f, hf⟩ := ih (h j (by omega)) (mapM_at hus j (by omega) hj) (n1 j (by omega))
        exact ⟨f, fun _ _ => hf⟩
      obtain ⟨fp, hfp⟩ := choose_fp H1
      have hall : ∀ j (hj : j < us.length), TR w g.S us[j] (arr.getD j Go.undef) (fp j) ∧ Given H g (eidN H k (cs[j]'(by omega))) (fp j) := fun j hj => hfp j hj hj (by omega)
      refine ⟨_, .agg fp (by omega) (fun j hj => (hall j hj).1) fun j hj => h1 j (by omega), ?_, fun b hb => ?_⟩
      · refine given_list (ids := fun j => if hj : j < cs.length then eidN H k cs[j] else []) m (fun j hj => ?_) fun i j hi hj hne a ha => ?_
        · have hj2 : j < cs.length := by omega
          simp only [hj2, dif_pos]; exact (hall j hj).2
        · have hi2 : i < cs.length := by omega
          have hj2 : j < cs.length := by omega
          simp only [hi2, hj2, dif_pos] at ha ⊢; exact n2 i j hi2 hj2 hne a ha
      · obtain ⟨j, hj, hb⟩ := mem_fm.1 hb
        obtain ⟨id, h1, h2⟩ := (hall j hj).2.2 b hb
        exact ⟨id, List.mem_flatMap.2 ⟨_, List.getElem_mem (by omega), h1⟩, h2⟩
    | @tup cs arr hl h =>
      simp only [expN] at hu
      simp only [eidN] at hn ⊢
      obtain ⟨us, hus, rfl⟩ := Option.map_eq_some_iff.1 hu
      have hlen := mapM_len hus
      obtain ⟨n1, n2⟩ := nodup_flatMap_at hn
      have H1 : ∀ j, j < us.length → ∃ f, ∀ (hj : j < us.length) (hj2 : j < cs.length), TR w g.S us[j] (arr.getD j Go.undef) f ∧ Given H g (eidN H k cs[j]) f := fun j hj => by
        obtain ⟨f, hf⟩ := ih (h j (by omega)) (mapM_at hus j (by omega) hj) (n1 j (by omega))
        exact ⟨f, fun _ _ => hf⟩
      obtain ⟨fp, hfp⟩ := choose_fp H1
      have hall : ∀ j (hj : j < us.length), TR w g.S us[j] (arr.getD j Go.undef) (fp j) ∧ Given H g (eidN H k (cs[j]'(by omega))) (fp j) := fun j hj => hfp j hj hj (by omega)
      refine ⟨_, .tup fp (by omega) fun j hj => (hall j hj).1, ?_, fun b hb => ?_⟩
      · refine given_list (ids := fun j => if hj : j < cs.length then eidN H k cs[j] else []) m (fun j hj => ?_) fun i j hi hj hne a ha => ?_
        · have hj2 : j < cs.length := by omega
          simp only [hj2, dif_pos]; exact (hall j hj).2
        · have hi2 : i < cs.length := by omega
          have hj2 : j < cs.length := by omega
          simp only [hi2, hj2, dif_pos] at ha ⊢; exact n2 i j hi2 hj2 hne a ha
      · obtain ⟨j, hj, hb⟩ := mem_fm.1 hb
        obtain ⟨id, h1, h2⟩ := (hall j hj).2.2 b hb
        exact ⟨id, List.mem_flatMap.2 ⟨_, List.getElem_mem (by omega), h1⟩, h2⟩
    | @sl id ver off len c A hj hlc hcm hA0 h =>
      simp only [expN] at hu
      simp only [eidN] at hn ⊢
      split at hu
      · rename_i ob hob
        simp only [hob] at hn ⊢
        obtain ⟨hH, hver⟩ := getO_some hob
        split at hu
        · rename_i hcond
          obtain ⟨hlv, hoff, hfit⟩ := hcond
          subst hoff
          obtain ⟨us, hus, rfl⟩ := Option.map_eq_some_iff.1 hu
          have hlen := mapM_len hus
          rcases (h ob hH).2 hver with ⟨hc0, hl0, _⟩ | ⟨hc1, b, hJ, hA, hcap⟩
          · subst hc0; subst hl0
            have : us = [] := List.eq_nil_of_length_eq_zero (by rw [hlen]; simp)
            subst this
            exact ⟨[], .unil _ _, List.nodup_nil, fun b hb => by cases hb⟩
          · subst hA
            obtain ⟨arr, e, fr, fp0, hb, hz, hal, hcells, h1, hF⟩ := m.ob id ob _ hH hJ
            have hul : us.length = len * ob.sz := by rw [hlen, List.length_take]; omega
            have hnF := m.nd id ob hH
            rw [hF] at hnF
            obtain ⟨hbn, hnF⟩ := List.nodup_cons.1 hnF
            obtain ⟨q1, q2⟩ := nodup_fm.1 hnF
            obtain ⟨hidn, hn⟩ := List.nodup_cons.1 hn
            obtain ⟨n1, n2⟩ := nodup_flatMap_at hn
            have hbsz : arr.size = bsz w b := by simp only [bsz, hb]
            -- each element
            have H1 : ∀ j, j < us.length → ∃ f, ∀ (hj : j < us.length) (hj' : j < ob.cells.length) (hj2 : j < (ob.cells.take (len * ob.sz)).length), TR w g.S us[j] (arr.getD j Go.undef) f ∧ f.Nodup ∧
                ∀ b', b' ∈ f → b' ∈ fp0 j ∨ ∃ id', id' ∈ eidN H k (ob.cells.take (len * ob.sz))[j] ∧ b' ∈ g.F id' ∧ (H id').isSome = true := fun j hj => by
              have hj' : j < ob.cells.length := by omega
              have hj2 : j < (ob.cells.take (len * ob.sz)).length := by omega
              have hg : (ob.cells.take (len * ob.sz))[j] = ob.cells[j] := by simp [List.getElem_take]
              have hx := mapM_at hus j hj2 hj
              rcases hcells j hj' with ⟨hv, hf0⟩ | ht
              · obtain ⟨f, ht, hnd, hgv⟩ := ih (v := (ob.cells.take (len * ob.sz))[j]) (by rw [hg]; exact hv) hx (n1 j hj2)
                exact ⟨f, fun _ _ _ => ⟨ht, hnd, fun b' hb' => .inr (hgv b' hb')⟩⟩
              · rw [hg] at hx
                exact ⟨fp0 j, fun _ _ _ => ⟨ht.exp hx, q1 j hj', fun b' hb' => .inl hb'⟩⟩
            obtain ⟨fp, hfp⟩ := choose_fp H1
            have hall : ∀ j (hj : j < us.length), TR w g.S us[j] (arr.getD j Go.undef) (fp j) ∧ (fp j).Nodup ∧
                ∀ b', b' ∈ fp j → b' ∈ fp0 j ∨ ∃ id', id' ∈ eidN H k ((ob.cells.take (len * ob.sz))[j]'(by omega)) ∧ b' ∈ g.F id' ∧ (H id').isSome = true := fun j hj => hfp j hj hj (by omega) (by omega)
            have hother : ∀ j (hj : j < us.length) id', id' ∈ eidN H k ((ob.cells.take (len * ob.sz))[j]'(by omega)) → id' ≠ id := fun j hj id' hid' e => by
              subst e
              exact hidn (List.mem_flatMap.2 ⟨_, List.getElem_mem (by omega), hid'⟩)
            have hbF : ∀ j, j < us.length → ∀ b', b' ∈ fp0 j → b' ∈ g.F id := fun j hj b' hb' => by
              rw [hF]; exact List.mem_cons_of_mem _ (mem_fm.2 ⟨j, by omega, hb'⟩)
            refine ⟨_, .uniq fp hb hz (by omega) (by rw [hbsz]; omega) hlc hcm hc1 (fun j hj => (hall j hj).1) fun j hj => h1 j (by omega), ?_, fun b' hb' => ?_⟩
            · refine List.nodup_cons.2 ⟨fun hmem => ?_, nodup_fm.2 ⟨fun j hj => (hall j hj).2.1, fun i j hij hj b' hb1 hb2 => ?_⟩⟩
              · obtain ⟨j, hj, hbj⟩ := mem_fm.1 hmem
                rcases (hall j hj).2.2 b hbj with h1 | ⟨id', hid', hb', hs'⟩
                · exact hbn (mem_fm.2 ⟨j, by omega, h1⟩)
                · obtain ⟨ob', hob'⟩ := Option.isSome_iff_exists.1 hs'
                  exact m.dj id id' ob ob' (Ne.symm (hother j hj id' hid')) hH hob' b (by rw [hF]; exact List.mem_cons_self ..) hb'
              · rcases (hall i (by omega)).2.2 b' hb1 with h1 | ⟨id1, hid1, hF1, hs1⟩
                · rcases (hall j hj).2.2 b' hb2 with h3 | ⟨id', hid', hb', hs'⟩
                  · exact q2 i j hij (by omega) b' h1 h3
                  · obtain ⟨ob', hob'⟩ := Option.isSome_iff_exists.1 hs'
                    exact m.dj id id' ob ob' (Ne.symm (hother j hj id' hid')) hH hob' b' (hbF i (by omega) b' h1) hb'
                · obtain ⟨ob1, hob1⟩ := Option.isSome_iff_exists.1 hs1
                  rcases (hall j hj).2.2 b' hb2 with h3 | ⟨id', hid', hb', hs'⟩
                  · exact m.dj id id1 ob ob1 (Ne.symm (hother i (by omega) id1 hid1)) hH hob1 b' (hbF j hj b' h3) hF1
                  · obtain ⟨ob', hob'⟩ := Option.isSome_iff_exists.1 hs'
                    by_cases e : id1 = id'
                    · subst e
                      exact n2 i j (by omega) (by omega) (by omega) id1 hid1 hid'
                    · exact m.dj id1 id' ob1 ob' e hob1 hob' b' hF1 hb'
            · rcases List.mem_cons.1 hb' with rfl | hb'
              · exact ⟨id, List.mem_cons_self .., by rw [hF]; exact List.mem_cons_self .., by rw [hH]; rfl⟩
              · obtain ⟨j, hj, hb'⟩ := mem_fm.1 hb'
                rcases (hall j hj).2.2 b' hb' with h1 | ⟨id', hid', h3, hs'⟩
                · exact ⟨id, List.mem_cons_self .., hbF j hj b' h1, by rw [hH]; rfl⟩
                · exact ⟨id', List.mem_cons_of_mem _ (List.mem_flatMap.2 ⟨_, List.getElem_mem (by omega), hid'⟩), h3, hs'⟩
        · cases hu
      · cases hu

end

end Go.Proofs.Ytclebbjpacpbmaa.Ev
