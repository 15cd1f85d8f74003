/- The abstract interpreter: values handed over, taken in, seen. operations that leave memory alone. operations that leave memory alone, further. Conditions: none. -/
import Derived.Test.YtacfkfdnncgjcaaEvC
section
set_option linter.unusedVariables false
set_option linter.unusedSimpArgs false
namespace Go.Proofs.Ytacfkfdnncgjcaa.Ev
open Go

theorem mapM_cons_some {α β : Type} {f : α → Option β} {a : α} {l : List α} {r : List β} (h : (a :: l).mapM f = some r) : ∃ b r', f a = some b ∧ l.mapM f = some r' ∧ r = b :: r' := by
  rw [List.mapM_cons] at h
  cases hf : f a with
  | none => rw [hf] at h; cases h
  | some b =>
    cases hl : l.mapM f with
    | none => rw [hf, hl] at h; cases h
    | some r' =>
      rw [hf, hl] at h
      injection h with h
      exact ⟨b, r', rfl, rfl, h.symm⟩

theorem mapM_len {α β : Type} {f : α → Option β} : ∀ {l : List α} {r : List β}, l.mapM f = some r → r.length = l.length
  | [], r, h => by simp at h; subst h; rfl
  | a :: l, r, h => by
    obtain ⟨b, r', _, hl, rfl⟩ := mapM_cons_some h
    simp [mapM_len hl]

theorem mapM_at {α β : Type} {f : α → Option β} : ∀ {l : List α} {r : List β}, l.mapM f = some r → ∀ (k : Nat) (hk : k < l.length) (hk' : k < r.length), f l[k] = some r[k]
  | [], r, h, k, hk, _ => by simp at hk
  | a :: l, r, h, k, hk, hk' => by
    obtain ⟨b, r', hb, hl, rfl⟩ := mapM_cons_some h
    cases k with
    | zero => exact hb
    | succ k => exact mapM_at hl k (by simpa using hk) (by simpa using hk')

/-! ### Operands -/
theorem ofS_sound {w : World} {S : Nat → Prop} {x : Value} {v : V} (h : V.ofS x = some v) : PR w S v x := by
  unfold V.ofS at h
  split at h <;> first | (injection h with h; subst h; constructor) | cases h

theorem ofS_one {x : Value} {v : V} (h : V.ofS x = some v) : x.oneCell' = true := by
  unfold V.ofS at h
  split at h <;> first | rfl | cases h

theorem ofC_sound {w : World} {S : Nat → Prop} {J : Nat → Option (Option Nat)} {H : Nat → Option Ob} {x : Value} {v : V} (h : V.ofC x = some v) : VR w S J H v x := by
  refine .pure ?_
  unfold V.ofC at h
  split at h
  · rename_i cs
    obtain ⟨r, hr, rfl⟩ := Option.map_eq_some_iff.1 h
    have hl := mapM_len hr
    have key : ∀ k (hk : k < r.length), PR w S r[k] (cs.getD k Go.undef) ∧ (cs.getD k Go.undef).oneCell' = true := fun k hk => by
      have hk' : k < cs.toList.length := by omega
      have hm := mapM_at hr k hk' hk
      have hg : cs.getD k Go.undef = cs.toList[k] := by
        have : k < cs.size := by simpa using hk'
        simp [Array.getD, this]
      rw [hg]
      exact ⟨ofS_sound hm, ofS_one hm⟩
    exact .agg (by simpa using hl) (fun k hk => (key k hk).1) fun k hk => (key k hk).2
  · rename_i cs
    split at h
    · injection h with h
      subst h
      have : cs = #[] := Array.eq_empty_of_size_eq_zero (by assumption)
      subst this
      exact .undef
    · cases h
  · exact ofS_sound h

theorem ev_sound {w : World} {S : Nat → Prop} {J : Nat → Option (Option Nat)} {H : Nat → Option Ob} {fr : Nat → V} {a : Act} (sl : ∀ t, VR w S J H (fr t) (a.tmps.getD t Go.undef)) {x : Operand} {v : V} (h : ev fr x = some v) :
    VR w S J H v (a.eval x) := by
  cases x with
  | tmp t => simp only [ev, Option.some.injEq] at h; subst h; exact sl t
  | const c => exact ofC_sound h
  | global g => simp [ev] at h
  | func f =>
    simp only [ev, Option.some.injEq] at h
    subst h
    exact .pure (.func rfl rfl (fun k hk => by simp at hk) (fun k hk => by simp at hk))

/-! ### Trees as values that are only read -/
theorem getD_of {arr : Array Value} {k : Nat} (h : k < arr.size) : arr[k]? = some (arr.getD k Go.undef) := by
  simp [Array.getD, h]

theorem cell_at {w : World} {b k : Nat} {arr : Array Value} {e : TypeId} {fr : Nat × Nat} (hb : w.heap[b]? = some (.cells arr e fr)) (h : k < arr.size) : w.cell? ⟨b, k, none⟩ = some (arr.getD k Go.undef) := by
  simp only [World.cell?, hb]
  simpa using getD_of h

theorem addr_add (b o k : Nat) : (⟨b, o, none⟩ : Addr).add k = ⟨b, o + k, none⟩ := by
  unfold Addr.add
  split <;> simp_all

theorem PR.pur {w : World} {H : Nat → Option Ob} {S S' : Nat → Prop} (hS : ∀ b, S b → S' b) {v : V} {x : Value} (h : PR w S v x) : ∀ (k : Nat) {u : V}, purN H k v = some u → PR w S' u x := by
  intro k u
  induction h generalizing k u with
  | nils A =>
    intro hu
    have : u = .list 0 [] := by cases k <;> simp [purN] at hu <;> exact hu.symm
    subst this
    exact .list (fun _ => Go.undef) (.inl rfl) (Nat.le_refl _) (by simp [maxLen]) (fun k hk => by simp at hk) fun k hk => by simp at hk
  | @list n c cs A f hd hn hm h h1 ih =>
    intro hu
    have : u = .list n cs := by cases k <;> simp [purN] at hu <;> exact hu.symm
    subst this
    exact PR.mono hS (fun _ _ => rfl) (.list f hd hn hm h h1)
  | @ref cs off ad f hs hd h h1 ih =>
    intro hu
    have : u = .ref cs off := by cases k <;> simp [purN] at hu <;> exact hu.symm
    subst this
    exact PR.mono hS (fun _ _ => rfl) (.ref f hs hd h h1)
  | func h1 h2 hf hc ihf ihc =>
    intro hu
    cases k with
    | zero => simp [purN] at hu
    | succ k =>
      simp only [purN] at hu
      split at hu
      · rename_i fi' ca' e1 e2
        injection hu with hu
        subst hu
        have l1 := mapM_len e1
        have l2 := mapM_len e2
        exact .func (by omega) (by omega) (fun j hj => ihf j (by omega) _ (mapM_at e1 j (by omega) hj)) (fun j hj => ihc j (by omega) _ (mapM_at e2 j (by omega) hj))
      · cases hu
  | iface h ih =>
    intro hu
    cases k with
    | zero => simp [purN] at hu
    | succ k =>
      simp only [purN] at hu
      obtain ⟨u', hu', rfl⟩ := Option.map_eq_some_iff.1 hu
      exact .iface (ih _ hu')
  | agg hl h h1 ih =>
    intro hu
    cases k with
    | zero => simp [purN] at hu
    | succ k =>
      simp only [purN] at hu
      obtain ⟨us, hus, rfl⟩ := Option.map_eq_some_iff.1 hu
      have hlen := mapM_len hus
      exact .agg (by omega) (fun j hj => ih j (by omega) _ (mapM_at hus j (by omega) hj)) fun j hj => h1 j (by omega)
  | tup hl h ih =>
    intro hu
    cases k with
    | zero => simp [purN] at hu
    | succ k =>
      simp only [purN] at hu
      obtain ⟨us, hus, rfl⟩ := Option.map_eq_some_iff.1 hu
      have hlen := mapM_len hus
      exact .tup (by omega) fun j hj => ih j (by omega) _ (mapM_at hus j (by omega) hj)
  | _ => intro hu; cases k <;> simp [purN] at hu <;> subst hu <;> constructor

theorem TR.view {w : World} {S0 : Nat → Prop} {v : V} {x : Value} {fp : List Nat} (h : TR w S0 v x fp) {S : Nat → Prop} (h0 : ∀ b, S0 b → S b) : ∀ {k : Nat} {u : V}, (∀ b, b ∈ fp → S b) → viewN k v = some u → PR w S u x := by
  induction h with
  | @uniq sz n c b cs arr e fr fp hb hz hl hc hn hm hc1 h h1 ih =>
    intro k u hS hu
    cases k with
    | zero => simp [viewN] at hu
    | succ k =>
      simp only [viewN] at hu
      obtain ⟨us, hus, rfl⟩ := Option.map_eq_some_iff.1 hu
      have hlen := mapM_len hus
      have hsz : ∀ j, j < us.length → j < _ := fun j hj => by
        have h1 := Nat.mul_le_mul_right sz hn
        exact Nat.lt_of_lt_of_le hj (by rw [hlen, hl]; exact Nat.le_trans h1 hc)
      refine .list (fun j => arr.getD j Go.undef) (.inr ⟨_, rfl, hS _ (List.mem_cons_self ..), fun j hj => ?_⟩) hn hm (fun j hj => ?_) fun j hj => h1 j (by omega)
      · rw [addr_add, Nat.zero_add]
        exact cell_at hb (hsz j hj)
      · exact ih j (by omega) (fun b hb' => hS b (List.mem_cons_of_mem _ (mem_fm.2 ⟨j, by omega, hb'⟩))) (mapM_at hus j (by omega) hj)
  | uptr fp hb hz hl h h1 ih => intro k u hS hu; cases k <;> simp [viewN] at hu
  | agg fp hl h h1 ih => intro k u hS hu; cases k <;> simp [viewN] at hu
  | tup fp hl h ih => intro k u hS hu; cases k <;> simp [viewN] at hu
  | unil sz A =>
    intro k u hS hu
    cases k with
    | zero => simp [viewN] at hu
    | succ k =>
      simp [viewN] at hu
      subst hu
      exact .list (fun _ => Go.undef) (.inl rfl) (Nat.le_refl _) (by simp [maxLen]) (fun k hk => by simp at hk) fun k hk => by simp at hk
  | pr h =>
    intro k u hS hu
    have h1 := h.mono h0 fun _ _ => rfl
    cases h <;> cases k <;> simp [viewN] at hu <;> subst hu <;> exact h1

theorem TR.pur {w : World} {H : Nat → Option Ob} {S0 : Nat → Prop} {v : V} {x : Value} {fp : List Nat} (h : TR w S0 v x fp) {S : Nat → Prop} (h0 : ∀ b, S0 b → S b) : ∀ {k : Nat} {u : V}, (∀ b, b ∈ fp → S b) → purN H k v = some u → PR w S u x := by
  induction h with
  | @uniq sz n c b cs arr e fr fp hb hz hl hc hn hm hc1 h h1 ih =>
    intro k u hS hu
    cases k with
    | zero => simp [purN] at hu
    | succ k =>
      simp only [purN] at hu
      obtain ⟨us, hus, rfl⟩ := Option.map_eq_some_iff.1 hu
      have hlen := mapM_len hus
      have hsz : ∀ j, j < us.length → j < _ := fun j hj => by
        have h1 := Nat.mul_le_mul_right sz hn
        exact Nat.lt_of_lt_of_le hj (by rw [hlen, hl]; exact Nat.le_trans h1 hc)
      refine .list (fun j => arr.getD j Go.undef) (.inr ⟨_, rfl, hS _ (List.mem_cons_self ..), fun j hj => ?_⟩) hn hm (fun j hj => ?_) fun j hj => h1 j (by omega)
      · rw [addr_add, Nat.zero_add]
        exact cell_at hb (hsz j hj)
      · exact ih j (by omega) (fun b hb' => hS b (List.mem_cons_of_mem _ (mem_fm.2 ⟨j, by omega, hb'⟩))) (mapM_at hus j (by omega) hj)
  | uptr fp hb hz hl h h1 ih => intro k u hS hu; cases k <;> simp [purN] at hu
  | agg fp hl h h1 ih =>
    intro k u hS hu
    cases k with
    | zero => simp [purN] at hu
    | succ k =>
      simp only [purN] at hu
      obtain ⟨us, hus, rfl⟩ := Option.map_eq_some_iff.1 hu
      have hlen := mapM_len hus
      exact .agg (by omega) (fun j hj => ih j (by omega) (fun b hb' => hS b (mem_fm.2 ⟨j, by omega, hb'⟩)) (mapM_at hus j (by omega) hj)) fun j hj => h1 j (by omega)
  | tup fp hl h ih =>
    intro k u hS hu
    cases k with
    | zero => simp [purN] at hu
    | succ k =>
      simp only [purN] at hu
      obtain ⟨us, hus, rfl⟩ := Option.map_eq_some_iff.1 hu
      have hlen := mapM_len hus
      exact .tup (by omega) fun j hj => ih j (by omega) (fun b hb' => hS b (mem_fm.2 ⟨j, by omega, hb'⟩)) (mapM_at hus j (by omega) hj)
  | unil sz A =>
    intro k u hS hu
    cases k with
    | zero => simp [purN] at hu
    | succ k =>
      simp [purN] at hu
      subst hu
      exact .list (fun _ => Go.undef) (.inl rfl) (Nat.le_refl _) (by simp [maxLen]) (fun k hk => by simp at hk) fun k hk => by simp at hk
  | pr h => intro k u hS hu; exact h.pur h0 k hu

theorem getO_some {H : Nat → Option Ob} {id ver : Nat} {ob : Ob} (h : getO H id ver = some ob) : H id = some ob ∧ ob.ver = ver := by
  unfold getO at h
  split at h
  · split at h
    · injection h with h; subst h; exact ⟨by assumption, by assumption⟩
    · cases h
  · cases h

theorem take_drop_at {α : Type} {l : List α} {o n k : Nat} (h : k < ((l.drop o).take n).length) : o + k < l.length ∧ ∀ h', ((l.drop o).take n)[k] = l[o + k]'h' := by
  have h1 : k < n ∧ k < l.length - o := by
    have := h
    simp only [List.length_take, List.length_drop] at this
    omega
  refine ⟨by omega, fun h' => ?_⟩
  simp [List.getElem_take, List.getElem_drop]

section
variable {B : Beg} {H : Nat → Option Ob} {w : World} {g : Gh}

/-- A value, its own objects seen as slices that are only read. -/
theorem pur_sound (m : MR B H w g) {S' : Nat → Prop} (hS : ∀ b, g.S b → S' b) : ∀ (k : Nat) {v : V} {x : Value} {u : V}, VR w g.S g.J H v x → purN H k v = some u → (∀ id, id ∈ idsN H k v → ∀ b, b ∈ g.F id → S' b) → PR w S' u x := by
  intro k
  induction k with
  | zero =>
    intro v x u h hu hid
    cases h with
    | pure h => exact h.pur hS 0 hu
    | _ => simp [purN] at hu
  | succ k ih =>
    intro v x u h hu hid
    have cellCase : ∀ {c : V} {y : Value} {fp : List Nat} {u' : V}, CR w g.S g.J H c y fp → purN H k c = some u' → (∀ b, b ∈ fp → S' b) → (∀ id, id ∈ idsN H k c → ∀ b, b ∈ g.F id → S' b) → PR w S' u' y := by
      intro c y fp u' hc hu' hfp hid'
      rcases hc with ⟨hc, _⟩ | hc
      · exact ih hc hu' hid'
      · exact hc.pur hS hfp hu'
    cases h with
    | any x => simp [purN] at hu
    | pure h => exact h.pur hS _ hu
    | @sl id ver off len c A hj hlc hcm hA0 h =>
      simp only [purN] at hu
      simp only [idsN] at hid
      split at hu
      · rename_i ob hob
        simp only [hob] at hid
        obtain ⟨hH, hver⟩ := getO_some hob
        split at hu
        · rename_i hfit
          obtain ⟨us, hus, rfl⟩ := Option.map_eq_some_iff.1 hu
          have hlen := mapM_len hus
          rcases (h ob hH).2 hver with ⟨hc0, hl0, _⟩ | ⟨hc1, b, hJ, hA, hcap⟩
          · subst hc0; subst hl0
            have : us = [] := List.eq_nil_of_length_eq_zero (by rw [hlen]; simp)
            subst this
            exact .list (fun _ => Go.undef) (.inl rfl) (Nat.le_refl _) (by simp [maxLen]) (fun k hk => by simp at hk) fun k hk => by simp at hk
          · subst hA
            obtain ⟨arr, e, fr, fp, hb, hz, hal, hcells, h1, hF⟩ := m.ob id ob _ hH hJ
            refine .list (fun j => arr.getD (off + j) Go.undef) (.inr ⟨_, rfl, hid id (List.mem_cons_self ..) b (by rw [hF]; exact List.mem_cons_self ..), fun j hj => ?_⟩) hlc hcm (fun j hj => ?_) fun j hj => h1 (off + j) (take_drop_at (l := ob.cells) (o := off) (n := len * ob.sz) (k := j) (by omega)).1
            · rw [addr_add]
              have := (take_drop_at (l := ob.cells) (o := off) (n := len * ob.sz) (k := j) (by omega)).1
              exact cell_at hb (by omega)
            · have hj' : j < ((ob.cells.drop off).take (len * ob.sz)).length := by omega
              obtain ⟨hin, hget⟩ := take_drop_at hj'
              have hu' := mapM_at hus j hj' hj
              have hg := hget hin
              rw [hg] at hu'
              refine cellCase (hcells (off + j) hin) hu' (fun b' hb' => hid id (List.mem_cons_self ..) b' (by rw [hF]; exact List.mem_cons_of_mem _ (mem_fm.2 ⟨_, hin, hb'⟩))) fun id' hid' => hid id' ?_
              refine List.mem_cons_of_mem _ (List.mem_flatMap.2 ⟨_, List.getElem_mem hj', ?_⟩)
              rw [hg]; exact hid'
        · cases hu
      · cases hu
    | @ptr id ver off a hj h =>
      simp only [purN] at hu
      simp only [idsN] at hid
      split at hu
      · rename_i ob hob
        simp only [hob] at hid
        obtain ⟨hH, hver⟩ := getO_some hob
        obtain ⟨us, hus, rfl⟩ := Option.map_eq_some_iff.1 hu
        have hlen := mapM_len hus
        obtain ⟨b, hJ, rfl⟩ := (h ob hH).2 hver
        obtain ⟨arr, e, fr, fp, hb, hz, hal, hcells, h1, hF⟩ := m.ob id ob _ hH hJ
        have hadd : (⟨b, off, none⟩ : Addr) = (⟨b, 0, none⟩ : Addr).add off := by rw [addr_add, Nat.zero_add]
        rw [hadd]
        refine .ref (fun j => arr.getD j Go.undef) (hid id (List.mem_cons_self ..) b (by rw [hF]; exact List.mem_cons_self ..)) (fun j hj => ?_) (fun j hj => ?_) fun j hj => h1 j (by omega)
        · rw [addr_add, Nat.zero_add]; exact cell_at hb (by omega)
        · have hj' : j < ob.cells.length := by omega
          refine cellCase (hcells j hj') (mapM_at hus j hj' hj) (fun b' hb' => hid id (List.mem_cons_self ..) b' (by rw [hF]; exact List.mem_cons_of_mem _ (mem_fm.2 ⟨_, hj', hb'⟩))) fun id' hid' => hid id' ?_
          exact List.mem_cons_of_mem _ (List.mem_flatMap.2 ⟨_, List.getElem_mem hj', hid'⟩)
      · cases hu
    | func h1 h2 hf hc =>
      simp only [purN] at hu
      simp only [idsN] at hid
      split at hu
      · rename_i fi' ca' e1 e2
        injection hu with hu
        subst hu
        have l1 := mapM_len e1
        have l2 := mapM_len e2
        exact .func (by omega) (by omega)
          (fun j hj => ih (hf j (by omega)) (mapM_at e1 j (by omega) hj) fun id' hid' => hid id' (List.mem_append.2 (.inl (List.mem_flatMap.2 ⟨_, List.getElem_mem (by omega), hid'⟩))))
          (fun j hj => ih (hc j (by omega)) (mapM_at e2 j (by omega) hj) fun id' hid' => hid id' (List.mem_append.2 (.inr (List.mem_flatMap.2 ⟨_, List.getElem_mem (by omega), hid'⟩))))
      · cases hu
    | iface h =>
      simp only [purN] at hu
      simp only [idsN] at hid
      obtain ⟨u', hu', rfl⟩ := Option.map_eq_some_iff.1 hu
      exact .iface (ih h hu' hid)
    | agg hl h h1 =>
      simp only [purN] at hu
      simp only [idsN] at hid
      obtain ⟨us, hus, rfl⟩ := Option.map_eq_some_iff.1 hu
      have hlen := mapM_len hus
      exact .agg (by omega) (fun j hj => ih (h j (by omega)) (mapM_at hus j (by omega) hj) fun id' hid' => hid id' (List.mem_flatMap.2 ⟨_, List.getElem_mem (by omega), hid'⟩)) fun j hj => h1 j (by omega)
    | tup hl h =>
      simp only [purN] at hu
      simp only [idsN] at hid
      obtain ⟨us, hus, rfl⟩ := Option.map_eq_some_iff.1 hu
      have hlen := mapM_len hus
      exact .tup (by omega) fun j hj => ih (h j (by omega)) (mapM_at hus j (by omega) hj) fun id' hid' => hid id' (List.mem_flatMap.2 ⟨_, List.getElem_mem (by omega), hid'⟩)


/-! ### Values as trees -/
theorem nodup_flatMap_at {α : Type} {f : α → List Nat} : ∀ {l : List α}, (l.flatMap f).Nodup → (∀ j (hj : j < l.length), (f l[j]).Nodup) ∧ ∀ i j (hi : i < l.length) (hj : j < l.length), i ≠ j → ∀ b, b ∈ f l[i] → b ∉ f l[j]
  | [], _ => ⟨fun j hj => by simp at hj, fun i j hi => by simp at hi⟩
  | a :: l, h => by
    rw [List.flatMap_cons, List.nodup_append] at h
    obtain ⟨h1, h2, h3⟩ := h
    obtain ⟨i1, i2⟩ := nodup_flatMap_at h2
    refine ⟨fun j hj => ?_, fun i j hi hj hne b hb hb' => ?_⟩
    · cases j with
      | zero => exact h1
      | succ j => exact i1 j (by simpa using hj)
    · cases i with
      | zero =>
        cases j with
        | zero => exact hne rfl
        | succ j => exact h3 b hb b (List.mem_flatMap.2 ⟨_, List.getElem_mem (by simpa using hj), hb'⟩) rfl
      | succ i =>
        cases j with
        | zero => exact h3 b hb' b (List.mem_flatMap.2 ⟨_, List.getElem_mem (by simpa using hi), hb⟩) rfl
        | succ j => exact i2 i j (by simpa using hi) (by simpa using hj) (by omega) b hb hb'

theorem choose_fp {n : Nat} {p : Nat → List Nat → Prop} (h : ∀ j, j < n → ∃ f, p j f) : ∃ fp : Nat → List Nat, ∀ j, j < n → p j (fp j) := by
  classical
  refine ⟨fun j => if hj : j < n then (h j hj).choose else [], fun j hj => ?_⟩
  simp only [hj, dif_pos]
  exact (h j hj).choose_spec

theorem fm_nil (n : Nat) : (List.range n).flatMap (fun _ => ([] : List Nat)) = [] := by
  induction n with
  | zero => rfl
  | succ n ih => rw [List.range_succ, List.flatMap_append, ih]; rfl

/-- A tree stays one. -/
theorem TR.exp {w : World} {H : Nat → Option Ob} {S : Nat → Prop} {v : V} {x : Value} {fp : List Nat} (h : TR w S v x fp) : ∀ {k : Nat} {u : V}, expN H k v = some u → TR w S u x fp := by
  have leaf : ∀ {k : Nat} {v u : V}, (if treeN k v || isLR v then some v else none) = some u → v = u := by
    intro k v u h
    split at h
    · injection h
    · cases h
  induction h with
  | pr h =>
    intro k u hu
    refine .pr ?_
    induction h generalizing k u with
    | agg hl h h1 ih =>
      cases k with
      | zero => simp [expN, treeN, isLR] at hu
      | succ k =>
        simp only [expN] at hu
        obtain ⟨us, hus, rfl⟩ := Option.map_eq_some_iff.1 hu
        have hlen := mapM_len hus
        exact .agg (by omega) (fun j hj => ih j (by omega) (mapM_at hus j (by omega) hj)) fun j hj => h1 j (by omega)
    | tup hl h ih =>
      cases k with
      | zero => simp [expN, treeN, isLR] at hu
      | succ k =>
        simp only [expN] at hu
        obtain ⟨us, hus, rfl⟩ := Option.map_eq_some_iff.1 hu
        have hlen := mapM_len hus
        exact .tup (by omega) fun j hj => ih j (by omega) (mapM_at hus j (by omega) hj)
    | list f hd hn hm h h1 ih => cases k <;> (simp only [expN] at hu; have := leaf hu; subst this; exact .list f hd hn hm h h1)
    | ref f hs hd h h1 ih => cases k <;> (simp only [expN] at hu; have := leaf hu; subst this; exact .ref f hs hd h h1)
    | func h1 h2 hf hc ihf ihc => cases k <;> (simp only [expN] at hu; have := leaf hu; subst this; exact .func h1 h2 hf hc)
    | iface h ih => cases k <;> (simp only [expN] at hu; have := leaf hu; subst this; exact .iface h)
    | _ => cases k <;> (simp only [expN] at hu; have := leaf hu; subst this; constructor)
  | unil sz A => intro k u hu; cases k <;> (simp only [expN] at hu; have := leaf hu; subst this; exact .unil sz A)
  | uniq fp hb hz hl hc hn hm hc1 h h1 ih => intro k u hu; cases k <;> (simp only [expN] at hu; have := leaf hu; subst this; exact .uniq fp hb hz hl hc hn hm hc1 h h1)
  | uptr fp hb hz hl h h1 ih => intro k u hu; cases k <;> (simp only [expN] at hu; have := leaf hu; subst this; exact .uptr fp hb hz hl h h1)
  | agg fp hl h h1 ih =>
    intro k u hu
    cases k with
    | zero => simp only [expN] at hu; have := leaf hu; subst this; exact .agg fp hl h h1
    | succ k =>
      simp only [expN] at hu
      obtain ⟨us, hus, rfl⟩ := Option.map_eq_some_iff.1 hu
      have hlen := mapM_len hus
      rw [← hlen]
      exact .agg fp (by omega) (fun j hj => ih j (by omega) (mapM_at hus j (by omega) hj)) fun j hj => h1 j (by omega)
  | tup fp hl h ih =>
    intro k u hu
    cases k with
    | zero => simp only [expN] at hu; have := leaf hu; subst this; exact .tup fp hl h
    | succ k =>
      simp only [expN] at hu
      obtain ⟨us, hus, rfl⟩ := Option.map_eq_some_iff.1 hu
      have hlen := mapM_len hus
      rw [← hlen]
      exact .tup fp (by omega) fun j hj => ih j (by omega) (mapM_at hus j (by omega) hj)

/-- Without leaves that are only read a tree is one whatever is only read. -/
theorem TR.strict {w : World} {S : Nat → Prop} {v : V} {x : Value} {fp : List Nat} (h : TR w S v x fp) : ∀ {k : Nat} (S' : Nat → Prop), treeN k v = true → TR w S' v x fp := by
  induction h with
  | pr h =>
    intro k S' ht
    refine .pr ?_
    induction h generalizing k with
    | agg hl h h1 ih =>
      cases k with
      | zero => simp [treeN] at ht
      | succ k => simp only [treeN, List.all_eq_true] at ht; exact .agg hl (fun j hj => ih j hj (ht _ (List.getElem_mem hj))) h1
    | tup hl h ih =>
      cases k with
      | zero => simp [treeN] at ht
      | succ k => simp only [treeN, List.all_eq_true] at ht; exact .tup hl fun j hj => ih j hj (ht _ (List.getElem_mem hj))
    | list f hd hn hm h h1 ih => cases k <;> simp [treeN] at ht
    | ref f hs hd h h1 ih => cases k <;> simp [treeN] at ht
    | func h1 h2 hf hc ihf ihc => cases k <;> simp [treeN] at ht
    | iface h ih => cases k <;> simp [treeN] at ht
    | _ => constructor
  | unil sz A => intro k S' ht; exact .unil sz A
  | uniq fp hb hz hl hc hn hm hc1 h h1 ih =>
    intro k S' ht
    cases k with
    | zero => simp [treeN] at ht
    | succ k => simp only [treeN, List.all_eq_true] at ht; exact .uniq fp hb hz hl hc hn hm hc1 (fun j hj => ih j hj S' (ht _ (List.getElem_mem hj))) h1
  | uptr fp hb hz hl h h1 ih =>
    intro k S' ht
    cases k with
    | zero => simp [treeN] at ht
    | succ k => simp only [treeN, List.all_eq_true] at ht; exact .uptr fp hb hz hl (fun j hj => ih j hj S' (ht _ (List.getElem_mem hj))) h1
  | agg fp hl h h1 ih =>
    intro k S' ht
    cases k with
    | zero => simp [treeN] at ht
    | succ k => simp only [treeN, List.all_eq_true] at ht; exact .agg fp hl (fun j hj => ih j hj S' (ht _ (List.getElem_mem hj))) h1
  | tup fp hl h ih =>
    intro k S' ht
    cases k with
    | zero => simp [treeN] at ht
    | succ k => simp only [treeN, List.all_eq_true] at ht; exact .tup fp hl fun j hj => ih j hj S' (ht _ (List.getElem_mem hj))

/-- What a value has given away, as blocks. -/
def Given (H : Nat → Option Ob) (g : Gh) (ids : List Nat) (fp : List Nat) : Prop :=
  fp.Nodup ∧ (∀ b, b ∈ fp → ∃ id, id ∈ ids ∧ b ∈ g.F id ∧ (H id).isSome = true)

theorem given_list {H : Nat → Option Ob} {w : World} {B : Beg} {g : Gh} (m : MR B H w g) {n : Nat} {fp : Nat → List Nat} {ids : Nat → List Nat}
    (h : ∀ j, j < n → Given H g (ids j) (fp j)) (hne : ∀ i j, i < n → j < n → i ≠ j → ∀ a, a ∈ ids i → a ∉ ids j) : ((List.range n).flatMap fp).Nodup := by
  refine nodup_fm.2 ⟨fun k hk => (h k hk).1, fun i j hij hj b hb hb' => ?_⟩
  obtain ⟨a, ha, hba, hsa⟩ := (h i (by omega)).2 b hb
  obtain ⟨c, hc, hbc, hsc⟩ := (h j hj).2 b hb'
  obtain ⟨oa, hoa⟩ := Option.isSome_iff_exists.1 hsa
  obtain ⟨oc, hoc⟩ := Option.isSome_iff_exists.1 hsc
  by_cases e : a = c
  · subst e
    exact hne i j (by omega) hj (by omega) a ha hc
  · exact m.dj a c oa oc e hoa hoc b hba hbc

/-- A cell of an object, as a tree; 'own': what the cell owned itself. -/
theorem exp_sound (m : MR B H w g) : ∀ (k : Nat) {v : V} {x : Value} {u : V}, VR w g.S g.J H v x → expN H k v = some u → (eidN H k v).Nodup → ∃ fp, TR w g.S u x fp ∧ Given H g (eidN H k v) fp := by
  have leaf : ∀ {k : Nat} {v u : V}, (if treeN k v || isLR v then some v else none) = some u → v = u ∧ (treeN k v || isLR v) = true := by
    intro k v u h
    split at h
    · injection h with h; exact ⟨h, by assumption⟩
    · cases h
  have nogive : Given H g [] [] := ⟨List.nodup_nil, fun b hb => by cases hb⟩
  intro k
  induction k with
  | zero =>
    intro v x u h hu hn
    cases h with
    | pure h => exact ⟨[], (TR.pr h).exp hu, by simpa [eidN] using nogive⟩
    | any x => simp [expN, treeN, isLR] at hu
    | sl hj hlc hcm hA0 h => simp [expN, treeN, isLR] at hu
    | ptr hj h => simp [expN, treeN, isLR] at hu
    | func h1 h2 hf hc => simp [expN, treeN, isLR] at hu
    | iface h => simp [expN, treeN, isLR] at hu
    | agg hl h => simp [expN, treeN, isLR] at hu
    | tup hl h => simp [expN, treeN, isLR] at hu
  | succ k ih =>
    intro v x u h hu hn
    cases h with
    | any x => simp [expN, treeN, isLR] at hu
    | pure h =>
      have : ∀ {v : V}, PR w g.S v x → ∀ {u : V}, expN H (k + 1) v = some u → Given H g (eidN H (k + 1) v) [] := fun _ _ _ => ⟨List.nodup_nil, fun b hb => by cases hb⟩
      exact ⟨[], (TR.pr h).exp hu, this h hu⟩
    | ptr hj h => simp [expN, treeN, isLR] at hu
    | func h1 h2 hf hc => simp [expN, treeN, isLR] at hu
    | iface h => simp [expN, treeN, isLR] at hu
    | @agg cs arr hl h h1 =>
      simp only [expN] at hu
      simp only [eidN] at hn ⊢
      obtain ⟨us, hus, rfl⟩ := Option.map_eq_some_iff.1 hu
      have hlen := mapM_len hus
      obtain ⟨n1, n2⟩ := nodup_flatMap_at hn
      have H1 : ∀ j, j < us.length → ∃ f, ∀ (hj : j < us.length) (hj2 : j < cs.length), TR w g.S us[j] (arr.getD j Go.undef) f ∧ Given H g (eidN H k cs[j]) f := fun j hj => by
        obtain ⟨f, hf⟩ := ih (h j (by omega)) (mapM_at hus j (by omega) hj) (n1 j (by omega))
        exact ⟨f, fun _ _ => hf⟩
      obtain ⟨fp, hfp⟩ := choose_fp H1
      have hall : ∀ j (hj : j < us.length), TR w g.S us[j] (arr.getD j Go.undef) (fp j) ∧ Given H g (eidN H k (cs[j]'(by omega))) (fp j) := fun j hj => hfp j hj hj (by omega)
      refine ⟨_, .agg fp (by omega) (fun j hj => (hall j hj).1) fun j hj => h1 j (by omega), ?_, fun b hb => ?_⟩
      · refine given_list (ids := fun j => if hj : j < cs.length then eidN H k cs[j] else []) m (fun j hj => ?_) fun i j hi hj hne a ha => ?_
        · have hj2 : j < cs.length := by omega
          simp only [hj2, dif_pos]; exact (hall j hj).2
        · have hi2 : i < cs.length := by omega
          have hj2 : j < cs.length := by omega
          simp only [hi2, hj2, dif_pos] at ha ⊢; exact n2 i j hi2 hj2 hne a ha
      · obtain ⟨j, hj, hb⟩ := mem_fm.1 hb
        obtain ⟨id, h1, h2⟩ := (hall j hj).2.2 b hb
        exact ⟨id, List.mem_flatMap.2 ⟨_, List.getElem_mem (by omega), h1⟩, h2⟩
    | @tup cs arr hl h =>
      simp only [expN] at hu
      simp only [eidN] at hn ⊢
      obtain ⟨us, hus, rfl⟩ := Option.map_eq_some_iff.1 hu
      have hlen := mapM_len hus
      obtain ⟨n1, n2⟩ := nodup_flatMap_at hn
      have H1 : ∀ j, j < us.length → ∃ f, ∀ (hj : j < us.length) (hj2 : j < cs.length), TR w g.S us[j] (arr.getD j Go.undef) f ∧ Given H g (eidN H k cs[j]) f := fun j hj => by
        obtain ⟨f, hf⟩ := ih (h j (by omega)) (mapM_at hus j (by omega) hj) (n1 j (by omega))
        exact ⟨f, fun _ _ => hf⟩
      obtain ⟨fp, hfp⟩ := choose_fp H1
      have hall : ∀ j (hj : j < us.length), TR w g.S us[j] (arr.getD j Go.undef) (fp j) ∧ Given H g (eidN H k (cs[j]'(by omega))) (fp j) := fun j hj => hfp j hj hj (by omega)
      refine ⟨_, .tup fp (by omega) fun j hj => (hall j hj).1, ?_, fun b hb => ?_⟩
      · refine given_list (ids := fun j => if hj : j < cs.length then eidN H k cs[j] else []) m (fun j hj => ?_) fun i j hi hj hne a ha => ?_
        · have hj2 : j < cs.length := by omega
          simp only [hj2, dif_pos]; exact (hall j hj).2
        · have hi2 : i < cs.length := by omega
          have hj2 : j < cs.length := by omega
          simp only [hi2, hj2, dif_pos] at ha ⊢; exact n2 i j hi2 hj2 hne a ha
      · obtain ⟨j, hj, hb⟩ := mem_fm.1 hb
        obtain ⟨id, h1, h2⟩ := (hall j hj).2.2 b hb
        exact ⟨id, List.mem_flatMap.2 ⟨_, List.getElem_mem (by omega), h1⟩, h2⟩
    | @sl id ver off len c A hj hlc hcm hA0 h =>
      simp only [expN] at hu
      simp only [eidN] at hn ⊢
      split at hu
      · rename_i ob hob
        simp only [hob] at hn ⊢
        obtain ⟨hH, hver⟩ := getO_some hob
        split at hu
        · rename_i hcond
          obtain ⟨hlv, hoff, hfit⟩ := hcond
          subst hoff
          obtain ⟨us, hus, rfl⟩ := Option.map_eq_some_iff.1 hu
          have hlen := mapM_len hus
          rcases (h ob hH).2 hver with ⟨hc0, hl0, _⟩ | ⟨hc1, b, hJ, hA, hcap⟩
          · subst hc0; subst hl0
            have : us = [] := List.eq_nil_of_length_eq_zero (by rw [hlen]; simp)
            subst this
            exact ⟨[], .unil _ _, List.nodup_nil, fun b hb => by cases hb⟩
          · subst hA
            obtain ⟨arr, e, fr, fp0, hb, hz, hal, hcells, h1, hF⟩ := m.ob id ob _ hH hJ
            have hul : us.length = len * ob.sz := by rw [hlen, List.length_take]; omega
            have hnF := m.nd id ob hH
            rw [hF] at hnF
            obtain ⟨hbn, hnF⟩ := List.nodup_cons.1 hnF
            obtain ⟨q1, q2⟩ := nodup_fm.1 hnF
            obtain ⟨hidn, hn⟩ := List.nodup_cons.1 hn
            obtain ⟨n1, n2⟩ := nodup_flatMap_at hn
            have hbsz : arr.size = bsz w b := by simp only [bsz, hb]
            -- each element
            have H1 : ∀ j, j < us.length → ∃ f, ∀ (hj : j < us.length) (hj' : j < ob.cells.length) (hj2 : j < (ob.cells.take (len * ob.sz)).length), TR w g.S us[j] (arr.getD j Go.undef) f ∧ f.Nodup ∧
                ∀ b', b' ∈ f → b' ∈ fp0 j ∨ ∃ id', id' ∈ eidN H k (ob.cells.take (len * ob.sz))[j] ∧ b' ∈ g.F id' ∧ (H id').isSome = true := fun j hj => by
              have hj' : j < ob.cells.length := by omega
              have hj2 : j < (ob.cells.take (len * ob.sz)).length := by omega
              have hg : (ob.cells.take (len * ob.sz))[j] = ob.cells[j] := by simp [List.getElem_take]
              have hx := mapM_at hus j hj2 hj
              rcases hcells j hj' with ⟨hv, hf0⟩ | ht
              · obtain ⟨f, ht, hnd, hgv⟩ := ih (v := (ob.cells.take (len * ob.sz))[j]) (by rw [hg]; exact hv) hx (n1 j hj2)
                exact ⟨f, fun _ _ _ => ⟨ht, hnd, fun b' hb' => .inr (hgv b' hb')⟩⟩
              · rw [hg] at hx
                exact ⟨fp0 j, fun _ _ _ => ⟨ht.exp hx, q1 j hj', fun b' hb' => .inl hb'⟩⟩
            obtain ⟨fp, hfp⟩ := choose_fp H1
            have hall : ∀ j (hj : j < us.length), TR w g.S us[j] (arr.getD j Go.undef) (fp j) ∧ (fp j).Nodup ∧
                ∀ b', b' ∈ fp j → b' ∈ fp0 j ∨ ∃ id', id' ∈ eidN H k ((ob.cells.take (len * ob.sz))[j]'(by omega)) ∧ b' ∈ g.F id' ∧ (H id').isSome = true := fun j hj => hfp j hj hj (by omega) (by omega)
            have hother : ∀ j (hj : j < us.length) id', id' ∈ eidN H k ((ob.cells.take (len * ob.sz))[j]'(by omega)) → id' ≠ id := fun j hj id' hid' e => by
              subst e
              exact hidn (List.mem_flatMap.2 ⟨_, List.getElem_mem (by omega), hid'⟩)
            have hbF : ∀ j, j < us.length → ∀ b', b' ∈ fp0 j → b' ∈ g.F id := fun j hj b' hb' => by
              rw [hF]; exact List.mem_cons_of_mem _ (mem_fm.2 ⟨j, by omega, hb'⟩)
            refine ⟨_, .uniq fp hb hz (by omega) (by rw [hbsz]; omega) hlc hcm hc1 (fun j hj => (hall j hj).1) fun j hj => h1 j (by omega), ?_, fun b' hb' => ?_⟩
            · refine List.nodup_cons.2 ⟨fun hmem => ?_, nodup_fm.2 ⟨fun j hj => (hall j hj).2.1, fun i j hij hj b' hb1 hb2 => ?_⟩⟩
              · obtain ⟨j, hj, hbj⟩ := mem_fm.1 hmem
                rcases (hall j hj).2.2 b hbj with h1 | ⟨id', hid', hb', hs'⟩
                · exact hbn (mem_fm.2 ⟨j, by omega, h1⟩)
                · obtain ⟨ob', hob'⟩ := Option.isSome_iff_exists.1 hs'
                  exact m.dj id id' ob ob' (Ne.symm (hother j hj id' hid')) hH hob' b (by rw [hF]; exact List.mem_cons_self ..) hb'
              · rcases (hall i (by omega)).2.2 b' hb1 with h1 | ⟨id1, hid1, hF1, hs1⟩
                · rcases (hall j hj).2.2 b' hb2 with h3 | ⟨id', hid', hb', hs'⟩
                  · exact q2 i j hij (by omega) b' h1 h3
                  · obtain ⟨ob', hob'⟩ := Option.isSome_iff_exists.1 hs'
                    exact m.dj id id' ob ob' (Ne.symm (hother j hj id' hid')) hH hob' b' (hbF i (by omega) b' h1) hb'
                · obtain ⟨ob1, hob1⟩ := Option.isSome_iff_exists.1 hs1
                  rcases (hall j hj).2.2 b' hb2 with h3 | ⟨id', hid', hb', hs'⟩
                  · exact m.dj id id1 ob ob1 (Ne.symm (hother i (by omega) id1 hid1)) hH hob1 b' (hbF j hj b' h3) hF1
                  · obtain ⟨ob', hob'⟩ := Option.isSome_iff_exists.1 hs'
                    by_cases e : id1 = id'
                    · subst e
                      exact n2 i j (by omega) (by omega) (by omega) id1 hid1 hid'
                    · exact m.dj id1 id' ob1 ob' e hob1 hob' b' hF1 hb'
            · rcases List.mem_cons.1 hb' with rfl | hb'
              · exact ⟨id, List.mem_cons_self .., by rw [hF]; exact List.mem_cons_self .., by rw [hH]; rfl⟩
              · obtain ⟨j, hj, hb'⟩ := mem_fm.1 hb'
                rcases (hall j hj).2.2 b' hb' with h1 | ⟨id', hid', h3, hs'⟩
                · exact ⟨id, List.mem_cons_self .., hbF j hj b' h1, by rw [hH]; rfl⟩
                · exact ⟨id', List.mem_cons_of_mem _ (List.mem_flatMap.2 ⟨_, List.getElem_mem (by omega), hid'⟩), h3, hs'⟩
        · cases hu
      · cases hu

end

end Go.Proofs.Ytacfkfdnncgjcaa.Ev
end

section
set_option linter.unusedVariables false
set_option linter.unusedSimpArgs false
namespace Go.Proofs.Ytacfkfdnncgjcaa.Ev
open Go

section
variable {w : World} {S : Nat → Prop} {J : Nat → Option (Option Nat)} {H : Nat → Option Ob}

/-! ### What a value must be -/
theorem VR.int_inv {k : IntKind} {n : Int} {x : Value} (h : VR w S J H (.int k n) x) : x = .int k n := by
  cases h with | pure h => cases h; rfl
theorem VR.bool_inv {b : Bool} {x : Value} (h : VR w S J H (.bool b) x) : x = .bool b := by
  cases h with | pure h => cases h; rfl
theorem VR.str_inv {s : ByteArray} {x : Value} (h : VR w S J H (.str s) x) : x = .string s := by
  cases h with | pure h => cases h; rfl
theorem VR.undef_inv {x : Value} (h : VR w S J H .undef x) : x = Go.undef := by
  cases h with | pure h => cases h; rfl
theorem VR.nili_inv {x : Value} (h : VR w S J H .nili x) : x = .nilIface := by
  cases h with | pure h => cases h; rfl
theorem VR.nils_inv {x : Value} (h : VR w S J H .nils x) : ∃ A, x = .slice A 0 0 := by
  cases h with | pure h => cases h; exact ⟨_, rfl⟩
theorem VR.iface_inv {t : TypeId} {v : V} {x : Value} (h : VR w S J H (.iface t v) x) : ∃ y, x = .iface t y := by
  cases h with
  | pure h => cases h; exact ⟨_, rfl⟩
  | iface h => exact ⟨_, rfl⟩
theorem VR.sl_inv {id ver off len : Nat} {x : Value} (h : VR w S J H (.sl id ver off len) x) : ∃ A c, x = .slice A len c ∧ J id ≠ none ∧ len ≤ c ∧ c ≤ maxLen ∧ (len = 0 ∨ ∃ a, A = some a) ∧
    ∀ ob, H id = some ob → ver ≤ ob.ver ∧ (ob.ver = ver → (c = 0 ∧ len = 0 ∧ (off = 0 → J id = some none)) ∨ 1 ≤ c ∧ ∃ b, J id = some (some b) ∧ A = some ⟨b, off, none⟩ ∧ off + c * ob.sz ≤ bsz w b) := by
  cases h with
  | pure h => cases h
  | sl hj hlc hcm hA h => exact ⟨_, _, rfl, hj, hlc, hcm, hA, h⟩
theorem VR.ptr_inv {id ver off : Nat} {x : Value} (h : VR w S J H (.ptr id ver off) x) : ∃ a, x = .pointer (some a) ∧ J id ≠ none ∧
    ∀ ob, H id = some ob → ver ≤ ob.ver ∧ (ob.ver = ver → ∃ b, J id = some (some b) ∧ a = ⟨b, off, none⟩) := by
  cases h with
  | pure h => cases h
  | ptr hj h => exact ⟨_, rfl, hj, h⟩
theorem VR.list_inv {n : Nat} {cs : List V} {x : Value} (h : VR w S J H (.list n cs) x) : ∃ (A : Option Addr) (c : Nat) (f : Nat → Value), x = .slice A n c ∧ (cs = [] ∨ ∃ ad, A = some ad ∧ S ad.block ∧ ∀ k, k < cs.length → w.cell? (ad.add k) = some (f k)) ∧ n ≤ c ∧ c ≤ maxLen ∧
    (∀ k (hk : k < cs.length), PR w S cs[k] (f k)) ∧ ∀ k, k < cs.length → (f k).oneCell' = true := by
  cases h with
  | pure h => cases h with | list f hd hn hm h h1 => exact ⟨_, _, f, rfl, hd, hn, hm, h, h1⟩
theorem VR.ref_inv {off : Nat} {cs : List V} {x : Value} (h : VR w S J H (.ref cs off) x) : ∃ (ad : Addr) (f : Nat → Value), x = .pointer (some (ad.add off)) ∧ S ad.block ∧ (∀ k, k < cs.length → w.cell? (ad.add k) = some (f k)) ∧
    (∀ k (hk : k < cs.length), PR w S cs[k] (f k)) ∧ ∀ k, k < cs.length → (f k).oneCell' = true := by
  cases h with
  | pure h => cases h with | ref f hs hd h h1 => exact ⟨_, f, rfl, hs, hd, h, h1⟩
theorem VR.agg_inv {cs : List V} {x : Value} (h : VR w S J H (.agg cs) x) : ∃ arr : Array Value, x = .agg arr ∧ cs.length = arr.size ∧ (∀ k (hk : k < cs.length), VR w S J H cs[k] (arr.getD k Go.undef)) ∧ ∀ k, k < cs.length → (arr.getD k Go.undef).oneCell' = true := by
  cases h with
  | pure h => cases h with | agg hl h h1 => exact ⟨_, rfl, hl, fun k hk => .pure (h k hk), h1⟩
  | agg hl h h1 => exact ⟨_, rfl, hl, h, h1⟩
theorem VR.tup_inv {cs : List V} {x : Value} (h : VR w S J H (.tup cs) x) : ∃ arr : Array Value, x = .tuple arr ∧ cs.length = arr.size ∧ ∀ k (hk : k < cs.length), VR w S J H cs[k] (arr.getD k Go.undef) := by
  cases h with
  | pure h => cases h with | tup hl h => exact ⟨_, rfl, hl, fun k hk => .pure (h k hk)⟩
  | tup hl h => exact ⟨_, rfl, hl, h⟩
theorem VR.func_inv {g : Fn} {fi ca : List V} {x : Value} (h : VR w S J H (.func g fi ca) x) : ∃ fx cx : Array Value, x = .func g fx cx ∧ fi.length = fx.size ∧ ca.length = cx.size ∧ (∀ k (hk : k < fi.length), VR w S J H fi[k] (fx.getD k Go.undef)) ∧
    ∀ k (hk : k < ca.length), VR w S J H ca[k] (cx.getD k Go.undef) := by
  cases h with
  | pure h => cases h with | func h1 h2 hf hc => exact ⟨_, _, rfl, h1, h2, fun k hk => .pure (hf k hk), fun k hk => .pure (hc k hk)⟩
  | func h1 h2 hf hc => exact ⟨_, _, rfl, h1, h2, hf, hc⟩
theorem VR.len_inv {v : V} {n : Nat} {x : Value} (h : VR w S J H v x) (hl : lenV v = some n) (hs : ∀ s, v ≠ .str s) : ∃ A c, x = .slice A n c ∧ n ≤ c := by
  unfold lenV at hl
  split at hl
  · injection hl with hl; subst hl; obtain ⟨A, rfl⟩ := h.nils_inv; exact ⟨_, _, rfl, Nat.le_refl _⟩
  · injection hl with hl; subst hl; obtain ⟨A, c, f, rfl, _, hn, _⟩ := h.list_inv; exact ⟨_, _, rfl, hn⟩
  · injection hl with hl; subst hl; obtain ⟨A, c, rfl, _, hlc, _⟩ := h.sl_inv; exact ⟨_, _, rfl, hlc⟩
  · exact absurd rfl (hs _)
  · cases hl

/-! ### Arithmetic, comparisons -/
theorem int_of {k : IntKind} {n : Int} : VR w S J H (.int k n) (.int k n) := .pure (.int k n)
theorem bool_of {b : Bool} : VR w S J H (.bool b) (.bool b) := .pure (.bool b)

theorem decide_ne (a b : Int) : decide (¬ a = b) = (a != b) := by
  by_cases h : a = b <;> simp [h]

theorem intOp_sound {P : Program} {op : BinOp} {k : IntKind} {a b : Int} {v : V} {t : TypeId} (h : intOp op k a b = some v) :
    ∃ z, (binOp op t (.int k a) (.int k b)).run P w = .ok z w ∧ VR w S J H v z := by
  cases op <;> simp only [intOp, Option.some.injEq, reduceCtorEq, decide_ne] at h
  case quo =>
    split at h
    · cases h
    · rename_i hb
      injection h with h
      subst h
      exact ⟨_, by simp [binOp_quo, Op.intDiv, hb], int_of⟩
  case rem =>
    split at h
    · cases h
    · rename_i hb
      injection h with h
      subst h
      exact ⟨_, by simp [binOp_rem, Op.intDiv, hb], int_of⟩
  all_goals subst h
  case add => exact ⟨_, by simp [binOp_add, Op.intArith], int_of⟩
  case sub => exact ⟨_, by simp [binOp_sub, Op.intArith], int_of⟩
  case mul => exact ⟨_, by simp [binOp_mul, Op.intArith], int_of⟩
  case and => exact ⟨_, by simp [binOp_and, intBits_and], int_of⟩
  case or => exact ⟨_, by simp [binOp_or, intBits_or], int_of⟩
  case xor => exact ⟨_, by simp [binOp_xor, intBits_xor], int_of⟩
  case andNot => exact ⟨_, by simp [binOp_andNot, intBits_andNot], int_of⟩
  case eql => exact ⟨.bool (a == b), by simp [binOp_eql], by rw [show (a == b) = decide (a = b) from rfl]; exact bool_of⟩
  case neq => exact ⟨.bool (a != b), by simp [binOp_neq], bool_of⟩
  case lss => exact ⟨_, by simp only [binOp_lss]; rfl, bool_of⟩
  case leq => exact ⟨_, by simp only [binOp_leq]; rfl, bool_of⟩
  case gtr => exact ⟨_, by simp only [binOp_gtr]; rfl, bool_of⟩
  case geq => exact ⟨_, by simp only [binOp_geq]; rfl, bool_of⟩

theorem shOp_sound {P : Program} {op : BinOp} {k k' : IntKind} {a b : Int} {v : V} {t : TypeId} (h : shOp op k a b = some v) :
    ∃ z, (binOp op t (.int k a) (.int k' b)).run P w = .ok z w ∧ VR w S J H v z := by
  unfold shOp at h
  split at h
  · cases h
  · rename_i hb
    cases op <;> simp only [Option.some.injEq, reduceCtorEq] at h
    all_goals subst h
    · exact ⟨_, by simp [binOp_shl, Op.shift, hb], int_of⟩
    · exact ⟨_, by simp [binOp_shr, Op.shift, hb], int_of⟩

theorem strOp_sound {P : Program} {op : BinOp} {s u : ByteArray} {v : V} {t : TypeId} (h : strOp op s u = some v) :
    ∃ z, (binOp op t (.string s) (.string u)).run P w = .ok z w ∧ VR w S J H v z := by
  cases op <;> simp only [strOp, Option.some.injEq, reduceCtorEq] at h
  case add =>
    split at h
    · rename_i hz
      injection h with h
      subst h
      refine ⟨.string (s ++ u), ?_, .pure (.str _)⟩
      have hn : ¬ (((s.size + u.size : Nat) : Int) > IntKind.i64.max) := by
        rw [IntKind.max_i64]; omega
      simp only [binOp, Op.stringOp]
      rw [if_neg hn]
      rfl
    · cases h
  all_goals subst h
  all_goals exact ⟨_, by simp only [binOp, Op.stringOp]; rfl, bool_of⟩

theorem equal_bool {P : Program} {t : TypeId} (hu : P.underlying t = some .bool) (a b : Bool) : (Op.equal t (.bool a) (.bool b)).run P w = .ok (a == b) w := by
  have h : ∀ d, (Op.equalIn (d + 1) t (.bool a) (.bool b)).run P w = .ok (a == b) w := fun d => by simp [Op.equalIn, run_underlying hu]
  exact h 9999
theorem equal_nili {P : Program} {t : TypeId} {ms : Array (String × TypeId)} (hu : P.underlying t = some (.interface ms)) : (Op.equal t .nilIface .nilIface).run P w = .ok true w := by
  have h : ∀ d, (Op.equalIn (d + 1) t .nilIface .nilIface).run P w = .ok true w := fun d => by simp [Op.equalIn, run_underlying hu]
  exact h 9999
theorem equal_ni {P : Program} {t : TypeId} {ms : Array (String × TypeId)} (hu : P.underlying t = some (.interface ms)) (d : TypeId) (z : Value) : (Op.equal t .nilIface (.iface d z)).run P w = .ok false w := by
  have h : ∀ n, (Op.equalIn (n + 1) t .nilIface (.iface d z)).run P w = .ok false w := fun n => by simp [Op.equalIn, run_underlying hu]
  exact h 9999
theorem equal_in {P : Program} {t : TypeId} {ms : Array (String × TypeId)} (hu : P.underlying t = some (.interface ms)) (d : TypeId) (z : Value) : (Op.equal t (.iface d z) .nilIface).run P w = .ok false w := by
  have h : ∀ n, (Op.equalIn (n + 1) t (.iface d z) .nilIface).run P w = .ok false w := fun n => by simp [Op.equalIn, run_underlying hu]
  exact h 9999

theorem eqV_sound {P : Program} {t : TypeId} {c : Bool} {a b : V} {x y : Value} {r : Bool} (h : eqV (P.underlying t) c a b = some r) (ha : VR w S J H a x) (hb : VR w S J H b y) :
    (Op.equal t x y).run P w = .ok r w ∧ (∀ op X Y, (isC X || isC Y) = c → (eqGuard op t X Y x y).run P w = .ok () w) ∧ (∀ op, (op = .eql → binOp op t x y = (do pure (.bool (← Op.equal t x y)))) ∧ (op = .neq → binOp op t x y = (do pure (.bool (!(← Op.equal t x y)))))) := by
  unfold eqV at h
  split at h
  · rename_i hu
    injection h with h
    subst h
    obtain rfl := ha.bool_inv
    obtain rfl := hb.bool_inv
    refine ⟨equal_bool hu _ _, fun op X Y _ => by rw [eqGuard_at_bool]; rfl, fun op => ⟨fun e => by subst e; rfl, fun e => by subst e; rfl⟩⟩
  · rename_i hu
    split at h
    · rename_i hc
      injection h with h
      subst h
      obtain rfl := ha.nili_inv
      obtain rfl := hb.nili_inv
      refine ⟨equal_nili hu, fun op X Y hXY => ?_, fun op => ⟨fun e => by subst e; rfl, fun e => by subst e; rfl⟩⟩
      rw [hc] at hXY
      cases X with
      | const c0 => rw [eqGuard_nil_constL]; rfl
      | _ =>
        cases Y with
        | const c0 => rw [eqGuard_nil_constR]; rfl
        | _ => simp [isC] at hXY
    · cases h
  · rename_i hu
    injection h with h
    subst h
    obtain rfl := ha.nili_inv
    obtain ⟨z, rfl⟩ := hb.iface_inv
    refine ⟨equal_ni hu _ _, fun op X Y _ => by rw [eqGuard_nil_iface]; rfl, fun op => ⟨fun e => by subst e; rfl, fun e => by subst e; rfl⟩⟩
  · rename_i hu
    injection h with h
    subst h
    obtain ⟨z, rfl⟩ := ha.iface_inv
    obtain rfl := hb.nili_inv
    refine ⟨equal_in hu _ _, fun op X Y _ => by rw [eqGuard_at_iface]; rfl, fun op => ⟨fun e => by subst e; rfl, fun e => by subst e; rfl⟩⟩
  · cases h

theorem equal_slice_nil {P : Program} {t e : TypeId} (hu : P.underlying t = some (.slice e)) (ad : Addr) (n c : Nat) : (Op.equal t (.slice (some ad) n c) (.slice none 0 0)).run P w = .ok false w := by
  have h : ∀ d, (Op.equalIn (d + 1) t (.slice (some ad) n c) (.slice none 0 0)).run P w = .ok false w := fun d => by simp [Op.equalIn, run_underlying hu]
  exact h 9999
theorem sliceNil_sound {P : Program} {t : TypeId} {Y : Operand} {a : V} {x y : Value} {r : Bool} (h : sliceNil (P.underlying t) Y a = some r) (ha : VR w S J H a x) (hY : ∀ c, Y = .const c → y = c) :
    (Op.equal t x y).run P w = .ok r w ∧ (∀ op X Z, (eqGuard op t X Z x y).run P w = .ok () w) ∧ (∀ op, (op = .eql → binOp op t x y = (do pure (.bool (← Op.equal t x y)))) ∧ (op = .neq → binOp op t x y = (do pure (.bool (!(← Op.equal t x y)))))) := by
  unfold sliceNil at h
  split at h
  · rename_i e n c cs hu
    injection h with h
    subst h
    obtain rfl := hY _ rfl
    obtain ⟨A, cp, f, rfl, hA, _⟩ := ha.list_inv
    rcases hA with hA | ⟨ad, rfl, _⟩
    · cases hA
    · exact ⟨equal_slice_nil hu _ _ _, fun op X Z => by rw [eqGuard_at_slice]; rfl, fun op => ⟨fun e => by subst e; rfl, fun e => by subst e; rfl⟩⟩
  · rename_i e id ver off n hu
    injection h with h
    subst h
    obtain rfl := hY _ rfl
    obtain ⟨A, cp, rfl, _, _, _, hA, _⟩ := ha.sl_inv
    rcases hA with hA | ⟨ad, rfl⟩
    · cases hA
    · exact ⟨equal_slice_nil hu _ _ _, fun op X Z => by rw [eqGuard_at_slice]; rfl, fun op => ⟨fun e => by subst e; rfl, fun e => by subst e; rfl⟩⟩
  · cases h

theorem binV_sound {P : Program} {op : BinOp} {t : TypeId} {X Y : Operand} {a b v : V} {x y : Value} (h : binV P op t X Y a b = some v) (ha : VR w S J H a x) (hb : VR w S J H b y) (hY : ∀ c, Y = .const c → y = c) :
    ∃ z, (do eqGuard op t X Y x y; binOp op t x y : Sem Value).run P w = .ok z w ∧ VR w S J H v z := by
  unfold binV at h
  split at h
  · rename_i k n k' n'
    obtain rfl := ha.int_inv
    obtain rfl := hb.int_inv
    have key : ∃ z, (binOp op t (.int k n) (.int k' n')).run P w = .ok z w ∧ VR w S J H v z := by
      split at h
      · exact shOp_sound h
      · exact shOp_sound h
      · split at h
        · rename_i e; subst e; exact intOp_sound h
        · cases h
    obtain ⟨z, hz, hv⟩ := key
    exact ⟨z, by rw [eqGuard_at_int]; simpa using hz, hv⟩
  · obtain rfl := ha.str_inv
    obtain rfl := hb.str_inv
    obtain ⟨z, hz, hv⟩ := strOp_sound (P := P) (w := w) (S := S) (J := J) (H := H) (t := t) h
    exact ⟨z, by rw [eqGuard_at_string]; simpa using hz, hv⟩
  · split at h
    · split at h
      · rename_i r hr
        injection h with h
        subst h
        obtain ⟨h1, h2, h3⟩ := sliceNil_sound hr ha hY
        refine ⟨.bool r, ?_, bool_of⟩
        rw [(h3 .eql).1 rfl]
        simp [h1, h2 .eql X Y]
      · obtain ⟨r, hr, rfl⟩ := Option.map_eq_some_iff.1 h
        obtain ⟨h1, h2, h3⟩ := eqV_sound hr ha hb
        refine ⟨.bool r, ?_, bool_of⟩
        rw [(h3 .eql).1 rfl]
        simp [h1, h2 .eql X Y rfl]
    · split at h
      · rename_i r hr
        injection h with h
        subst h
        obtain ⟨h1, h2, h3⟩ := sliceNil_sound hr ha hY
        refine ⟨.bool (!r), ?_, bool_of⟩
        rw [(h3 .neq).2 rfl]
        simp [h1, h2 .neq X Y]
      · obtain ⟨r, hr, rfl⟩ := Option.map_eq_some_iff.1 h
        obtain ⟨h1, h2, h3⟩ := eqV_sound hr ha hb
        refine ⟨.bool (!r), ?_, bool_of⟩
        rw [(h3 .neq).2 rfl]
        simp [h1, h2 .neq X Y rfl]
    · cases h

theorem unV_sound {P : Program} {op : UnOp} {a v : V} {x : Value} (h : unV op a = some v) (ha : VR w S J H a x) : ∃ z, (Op.unary op x).run P w = .ok z w ∧ VR w S J H v z := by
  unfold unV at h
  split at h
  · injection h with h; subst h
    obtain rfl := ha.bool_inv
    exact ⟨_, rfl, bool_of⟩
  · injection h with h; subst h
    obtain rfl := ha.int_inv
    exact ⟨_, by simp only [Op.unary, Op.intArith]; rfl, int_of⟩
  · cases h

end
end Go.Proofs.Ytacfkfdnncgjcaa.Ev
end

section
set_option linter.unusedVariables false
set_option linter.unusedSimpArgs false
namespace Go.Proofs.Ytacfkfdnncgjcaa.Ev
open Go

section
variable {w : World} {S : Nat → Prop} {J : Nat → Option (Option Nat)} {H : Nat → Option Ob} {P : Program}

theorem add_add (a : Addr) (m k : Nat) : (a.add m).add k = a.add (m + k) := by
  unfold Addr.add
  by_cases h1 : m = 0 <;> by_cases h2 : k = 0 <;> simp [h1, h2, Nat.add_assoc]

theorem und_agg {t : TypeId} {b : Bool} (h : aggT P t = some b) : ∃ d, P.underlying t = some d ∧ b = (match d with | .struct _ | .array _ _ => true | _ => false) := by
  unfold aggT at h
  obtain ⟨d, hd, rfl⟩ := Option.map_eq_some_iff.1 h
  exact ⟨d, hd, rfl⟩
theorem run_isAgg' {t : TypeId} {b : Bool} (h : aggT P t = some b) : (isAgg t).run P w = .ok b w := by
  obtain ⟨d, hd, rfl⟩ := und_agg h
  unfold isAgg
  simp only [Sem.run_bind, run_underlying hd, Result.andThen_ok]
  cases d <;> rfl
theorem run_sizeOf' {t : TypeId} {n : Nat} (h : szT P t = some n) : (sizeOf t).run P w = .ok n w := by
  unfold szT at h
  obtain ⟨i, hi, rfl⟩ := Option.map_eq_some_iff.1 h
  simp [sizeOf, typeInfo, hi]
theorem sl_und {t e : TypeId} {sz bytes : Nat} (h : slT P t = some (e, sz, bytes)) : P.underlying t = some (.slice e) ∧ ∃ i, P.info? e = some i ∧ i.size = sz ∧ i.bytes = bytes := by
  unfold slT at h
  split at h
  · rename_i e' he
    obtain ⟨i, hi, h2⟩ := Option.map_eq_some_iff.1 h
    simp only [Prod.mk.injEq] at h2
    obtain ⟨rfl, h2, h3⟩ := h2
    exact ⟨he, i, hi, h2, h3⟩
  · cases h
theorem fld_und {t : TypeId} {f o n : Nat} {ag : Bool} (h : fldT P t f = some (o, ag, n)) : ∃ fields x, P.underlying t = some (.struct fields) ∧ fields[f]? = some x ∧ x.offset = o ∧ aggT P x.type = some ag ∧ szT P x.type = some n := by
  unfold fldT at h
  split at h
  · rename_i fields hf
    split at h
    · rename_i x hx
      cases ha : aggT P x.type with
      | none => simp [ha] at h
      | some a =>
        cases hz : szT P x.type with
        | none => simp [ha, hz] at h
        | some z =>
          simp [ha, hz] at h
          obtain ⟨h1, h2, h3⟩ := h
          subst h2; subst h3
          exact ⟨fields, x, hf, hx, h1, ha, hz⟩
    · cases h
  · cases h
theorem arr_und {t : TypeId} {n s : Nat} {ag : Bool} (h : arrT P t = some (n, ag, s)) : ∃ e, P.underlying t = some (.array n e) ∧ aggT P e = some ag ∧ szT P e = some s := by
  unfold arrT at h
  split at h
  · rename_i n' e he
    cases ha : aggT P e with
    | none => simp [ha] at h
    | some a =>
      cases hz : szT P e with
      | none => simp [ha, hz] at h
      | some z =>
        simp [ha, hz] at h
        obtain ⟨h1, h2, h3⟩ := h
        subst h1; subst h2; subst h3
        exact ⟨e, he, ha, hz⟩
  · cases h

/-! ### Parts of aggregates -/
theorem extract_getD {arr : Array Value} {o n k : Nat} (h : o + n ≤ arr.size) (hk : k < n) : (arr.extract o (o + n)).getD k Go.undef = arr.getD (o + k) Go.undef := by
  have h1 : k < (arr.extract o (o + n)).size := by simp; omega
  have h2 : o + k < arr.size := by omega
  simp only [Array.getD, h1, h2, dif_pos, Array.getInternal_eq_getElem, Array.getElem_extract]

theorem agg_part {cs : List V} {arr : Array Value} {o n : Nat} (hl : cs.length = arr.size) (h : ∀ k (hk : k < cs.length), VR w S J H cs[k] (arr.getD k Go.undef)) (h1 : ∀ k, k < cs.length → (arr.getD k Go.undef).oneCell' = true) (hfit : o + n ≤ cs.length) :
    VR w S J H (.agg ((cs.drop o).take n)) (.agg (arr.extract o (o + n))) := by
  have hlen : ((cs.drop o).take n).length = n := by simp; omega
  refine .agg (by rw [hlen]; simp; omega) (fun k hk => ?_) fun k hk => ?_
  · obtain ⟨h1, h2⟩ := take_drop_at hk
    rw [h2 h1, extract_getD (by omega) (by omega)]
    exact h _ h1
  · rw [extract_getD (by omega) (by omega)]
    exact h1 _ (by omega)

theorem part_sound {t : TypeId} {ag : Bool} {n o : Nat} {cs : List V} {arr : Array Value} {v : V} (ha : aggT P t = some ag) (hz : szT P t = some n) (hl : cs.length = arr.size)
    (h : ∀ k (hk : k < cs.length), VR w S J H cs[k] (arr.getD k Go.undef)) (h1 : ∀ k, k < cs.length → (arr.getD k Go.undef).oneCell' = true) (hv : (if ag then (if o + n ≤ cs.length then some (.agg ((cs.drop o).take n)) else none) else cs[o]?) = some v) :
    ∃ z, (part t arr o).run P w = .ok z w ∧ VR w S J H v z := by
  unfold part
  cases ag with
  | true =>
    simp only [if_true] at hv
    split at hv
    · rename_i hfit
      injection hv with hv
      subst hv
      exact ⟨_, by simp [run_isAgg' ha, run_sizeOf' hz], agg_part hl h h1 hfit⟩
    · cases hv
  | false =>
    simp only [Bool.false_eq_true, if_false] at hv
    obtain ⟨ho, rfl⟩ := List.getElem?_eq_some_iff.1 hv
    refine ⟨arr.getD o Go.undef, ?_, h o ho⟩
    have : arr[o]? = some (arr.getD o Go.undef) := getD_of (by omega)
    simp only [Sem.run_bind, run_isAgg' ha, Result.andThen_ok, Bool.false_eq_true, if_false]
    rw [this]
    rfl

/-! ### Addresses -/
theorem ptr_add {id ver off o : Nat} {x : Value} (h : VR w S J H (.ptr id ver off) x) : ∃ a, x = .pointer (some a) ∧ VR w S J H (.ptr id ver (off + o)) (.pointer (some (a.add o))) := by
  obtain ⟨a, rfl, hj, h⟩ := h.ptr_inv
  refine ⟨a, rfl, .ptr hj fun ob hob => ⟨(h ob hob).1, fun e => ?_⟩⟩
  obtain ⟨b, hb, rfl⟩ := (h ob hob).2 e
  exact ⟨b, hb, addr_add b off o⟩
theorem ref_add {cs : List V} {off o : Nat} {x : Value} (h : VR w S J H (.ref cs off) x) : ∃ a, x = .pointer (some a) ∧ VR w S J H (.ref cs (off + o)) (.pointer (some (a.add o))) := by
  obtain ⟨ad, f, rfl, hS, hd, h, h1⟩ := h.ref_inv
  refine ⟨_, rfl, ?_⟩
  rw [add_add]
  exact .pure (.ref f hS hd h h1)

theorem fieldAt_run {t : TypeId} {f o n : Nat} {ag : Bool} (h : fldT P t f = some (o, ag, n)) (hn : n ≠ 0) (a : Addr) : (Instr.fieldAt t (.pointer (some a)) f).run P w = .ok (.pointer (some (a.add o))) w := by
  obtain ⟨fields, x, hu, hx, rfl, ha, hz⟩ := fld_und h
  simp [Instr.fieldAt, run_underlying hu, hx, Instr.sureAddr, fieldPlace, run_sizeOf' hz, hn]

theorem indexAt_slice_run {t e : TypeId} {sz bytes len c : Nat} (h : slT P t = some (e, sz, bytes)) (a : Addr) (k : IntKind) (i : Int) (h0 : 0 ≤ i) (h1 : i < len) :
    (Instr.indexAt t (.slice (some a) len c) (.int k i)).run P w = .ok (.pointer (some (a.add (i.toNat * sz)))) w := by
  obtain ⟨hu, inf, hi, rfl, rfl⟩ := sl_und h
  simp [Instr.indexAt, asIntOf, run_underlying hu, h0, h1, sizeOf, typeInfo, hi]

theorem indexAt_array_run {t : TypeId} {n s : Nat} {ag : Bool} (h : arrT P t = some (n, ag, s)) (a : Addr) (k : IntKind) (i : Int) (h0 : 0 ≤ i) (h1 : i < n) :
    (Instr.indexAt t (.pointer (some a)) (.int k i)).run P w = .ok (.pointer (some (a.add (i.toNat * s)))) w := by
  obtain ⟨e, hu, ha, hz⟩ := arr_und h
  simp [Instr.indexAt, asIntOf, run_underlying hu, h0, h1, Instr.sureAddr, run_sizeOf' hz]

/-! ### Cuts -/
theorem bound_sound {x : Option V} {y : Option Value} {d r : Nat} (h : bound x d = some r) (hx : ∀ v, x = some v → ∃ z, y = some z ∧ VR w S J H v z) (hn : x = none → y = none) : (x = none ∧ y = none ∧ r = d) ∨ ∃ k, y = some (.int k (r : Int)) ∧ x.isSome = true := by
  cases x with
  | none => simp [bound] at h; exact .inl ⟨rfl, hn rfl, h.symm⟩
  | some v =>
    right
    obtain ⟨z, rfl, hv⟩ := hx v rfl
    unfold bound at h
    split at h
    · rename_i e; cases e
    · rename_i e
      injection e with e
      subst e
      obtain rfl := hv.int_inv
      split at h
      · injection h with h
        exact ⟨_, by rw [← h, Int.toNat_of_nonneg (by assumption)], rfl⟩
      · cases h
    · cases h

theorem bounds_run {isSlice : Bool} {len cap l h m : Nat} {lo hi mx : Option Value} (hl : (lo = none ∧ l = 0) ∨ ∃ k, lo = some (.int k (l : Int))) (hh : (hi = none ∧ h = len) ∨ ∃ k, hi = some (.int k (h : Int)))
    (hm : (mx = none ∧ m = cap) ∨ ∃ k, mx = some (.int k (m : Int))) (hne : mx ≠ none → hi ≠ none) (h1 : l ≤ h) (h2 : h ≤ m) (h3 : m ≤ cap) (h4 : mx = none → hi = none → len ≤ cap) :
    (Instr.sliceBounds isSlice len cap lo hi mx).run P w = .ok (l, h, m) w := by
  have sb : ∀ (k : IntKind) (i y : Nat) (code : BoundsCode), i ≤ y → (Instr.sliceBound (.int k (i : Int)) y code).run P w = .ok i w := by
    intro k i y code hi
    rw [run_sliceBound w k (i : Int) y code (by omega) (by omega)]
    simp
  unfold Instr.sliceBounds
  rcases hm with ⟨rfl, rfl⟩ | ⟨km, rfl⟩
  · rcases hh with ⟨rfl, rfl⟩ | ⟨kh, rfl⟩
    · rcases hl with ⟨rfl, rfl⟩ | ⟨kl, rfl⟩
      · simp
      · simp [sb _ _ _ _ h1]
    · rcases hl with ⟨rfl, rfl⟩ | ⟨kl, rfl⟩
      · simp [sb _ _ _ _ h2]
      · simp [sb _ _ _ _ h2, sb _ _ _ _ h1]
  · rcases hh with ⟨rfl, rfl⟩ | ⟨kh, rfl⟩
    · exact absurd rfl (hne (by simp))
    · rcases hl with ⟨rfl, rfl⟩ | ⟨kl, rfl⟩
      · simp [sb _ _ _ _ h3, sb _ _ _ _ h2]
      · simp [sb _ _ _ _ h3, sb _ _ _ _ h2, sb _ _ _ _ h1]

theorem optV_rel {fr : Nat → V} {a : Act} (sl : ∀ t, VR w S J H (fr t) (a.tmps.getD t Go.undef)) {x : Option Operand} {v : Option V} (h : optE fr x = some v) :
    (∀ u, v = some u → ∃ z, x.map a.eval = some z ∧ VR w S J H u z) ∧ (v = none → x.map a.eval = none) := by
  cases x with
  | none => simp [optE] at h; subst h; exact ⟨fun u hu => (by cases hu), fun _ => rfl⟩
  | some x =>
    simp only [optE] at h
    obtain ⟨u, hu, rfl⟩ := Option.map_eq_some_iff.1 h
    exact ⟨fun u' hu' => by injection hu' with hu'; subst hu'; exact ⟨_, rfl, ev_sound sl hu⟩, fun hn => by cases hn⟩

theorem sliceAt_eq {t : TypeId} {x : Value} {lo hi mx : Option Value} (h : ∀ n e, P.underlying t ≠ some (.array n e)) {d : TypeDesc} (hd : P.underlying t = some d) : (Instr.sliceAt t x lo hi mx).run P w = (Instr.slice t x lo hi mx).run P w := by
  unfold Instr.sliceAt
  simp only [Sem.run_bind, run_underlying hd, Result.andThen_ok]
  cases d <;> first | rfl | exact absurd hd (h _ _)

theorem sliceD_sound {t : TypeId} {x : V} {y : Value} {lo hi mx : Option V} {lo' hi' mx' : Option Value} {d : D} (hd : sliceD P H t x lo hi mx = some d) (hx : VR w S J H x y)
    (hlo : (∀ u, lo = some u → ∃ z, lo' = some z ∧ VR w S J H u z) ∧ (lo = none → lo' = none)) (hhi : (∀ u, hi = some u → ∃ z, hi' = some z ∧ VR w S J H u z) ∧ (hi = none → hi' = none))
    (hmx : (∀ u, mx = some u → ∃ z, mx' = some z ∧ VR w S J H u z) ∧ (mx = none → mx' = none)) :
    ∃ z, (Instr.sliceAt t y lo' hi' mx').run P w = .ok z w ∧ VR w S J H d.v z ∧ d.wr = [] := by
  unfold sliceD at hd
  split at hd
  · rename_i s n hu hlen
    rw [sliceAt_eq (fun n e h => by rw [hu] at h; cases h) hu]
    obtain rfl := hx.str_inv
    simp only [lenV, Option.some.injEq] at hlen
    subst hlen
    split at hd
    · rename_i l h e1 e2
      split at hd
      · rename_i hc
        simp only [ret, Option.some.injEq] at hd
        subst hd
        obtain ⟨hl1, hh1⟩ := hc
        have b1 := bound_sound e1 hlo.1 hlo.2
        have b2 := bound_sound e2 hhi.1 hhi.2
        have hmn := hmx.2 rfl
        subst hmn
        have hb := bounds_run (P := P) (w := w) (isSlice := false) (len := s.size) (cap := s.size) (l := l) (h := h) (m := s.size) (lo := lo') (hi := hi') (mx := none)
          (b1.imp (fun q => ⟨q.2.1, q.2.2⟩) fun ⟨k, q, _⟩ => ⟨k, q⟩) (b2.imp (fun q => ⟨q.2.1, q.2.2⟩) fun ⟨k, q, _⟩ => ⟨k, q⟩) (.inl ⟨rfl, rfl⟩) (by simp) hl1 hh1 (Nat.le_refl _) (fun _ _ => Nat.le_refl _)
        refine ⟨.string (s.extract l h), ?_, .pure (.str _), rfl⟩
        simp [Instr.slice, run_underlying hu, hb]
      · cases hd
    · cases hd
  · rename_i e n hu hlen
    rw [sliceAt_eq (fun n e h => by rw [hu] at h; cases h) hu]
    split at hd
    · rename_i sz l h m e0 e1 e2 e3
      split at hd
      · rename_i hc
        obtain ⟨hlh, hhm, hmn, hmh, hsz0⟩ := hc
        have b1 := bound_sound e1 hlo.1 hlo.2
        have b2 := bound_sound e2 hhi.1 hhi.2
        have b3 := bound_sound e3 hmx.1 hmx.2
        -- the slice's own shape
        have shape : ∀ A c, n ≤ c → ∃ m', (mx' = none → m' = c) ∧ (mx.isSome = true → m' = m) ∧ l ≤ m' ∧ h ≤ m' ∧ m' ≤ c ∧
            (Instr.slice t (.slice A n c) lo' hi' mx').run P w = .ok (.slice (if m' = l then A else A.map (·.add (l * sz))) (h - l) (m' - l)) w := by
          intro A c hnc
          have hne : mx' ≠ none → hi' ≠ none := by
            intro hm hh
            rcases b3 with ⟨hmx0, hmx1, _⟩ | ⟨k, _, hs⟩
            · exact hm hmx1
            · rcases b2 with ⟨hh0, _⟩ | ⟨k2, hh2, _⟩
              · have := hmh hs; rw [hh0] at this; cases this
              · rw [hh2] at hh; cases hh
          have blo : (lo' = none ∧ l = 0) ∨ ∃ k, lo' = some (.int k (l : Int)) := b1.imp (fun q => ⟨q.2.1, q.2.2⟩) fun ⟨k, q, _⟩ => ⟨k, q⟩
          have bhi : (hi' = none ∧ h = n) ∨ ∃ k, hi' = some (.int k (h : Int)) := b2.imp (fun q => ⟨q.2.1, q.2.2⟩) fun ⟨k, q, _⟩ => ⟨k, q⟩
          rcases b3 with ⟨hmx0, hmx1, _⟩ | ⟨k, hmx1, hs⟩
          · refine ⟨c, fun _ => rfl, fun hs => (by rw [hmx0] at hs; cases hs), by omega, by omega, Nat.le_refl _, ?_⟩
            have hb := bounds_run (P := P) (w := w) (isSlice := true) (len := n) (cap := c) (m := c) blo bhi (.inl ⟨hmx1, rfl⟩) hne hlh (by omega) (Nat.le_refl _) (fun _ _ => hnc)
            simp [Instr.slice, run_underlying hu, hb, run_sizeOf' e0]
          · refine ⟨m, fun hn => (by rw [hmx1] at hn; cases hn), fun _ => rfl, by omega, by omega, by omega, ?_⟩
            have hb := bounds_run (P := P) (w := w) (isSlice := true) (len := n) (cap := c) (m := m) blo bhi (.inr ⟨k, hmx1⟩) hne hlh (by omega) (by omega) (fun _ _ => hnc)
            simp [Instr.slice, run_underlying hu, hb, run_sizeOf' e0]
        split at hd
        · rename_i hml
          simp only [Bool.and_eq_true, beq_iff_eq] at hml
          obtain ⟨hsome, rfl⟩ := hml
          split at hd
          · cases hd
          · rename_i hns
            simp only [ret, Option.some.injEq] at hd
            subst hd
            obtain ⟨A, c, rfl, hnc⟩ := hx.len_inv hlen hns
            obtain ⟨m', _, hm2, _, _, _, hr⟩ := shape A c hnc
            have := hm2 hsome
            subst this
            have : h - m' = 0 := by omega
            refine ⟨_, hr, ?_, rfl⟩
            simp only [this, Nat.sub_self]
            exact .pure (.nils _)
        · rename_i hml
          split at hd
          · rename_i id ver off len0
            split at hd
            · rename_i ob hob
              split at hd
              · rename_i hsz
                simp only [Option.some.injEq] at hd
                subst hd
                simp only [lenV, Option.some.injEq] at hlen
                subst hlen
                obtain ⟨A, c, rfl, hj, hlc, hcm, hA, hv⟩ := hx.sl_inv
                obtain ⟨m', hm0, hm2, hlm, hhm', hmc, hr⟩ := shape A c hlc
                refine ⟨_, hr, ?_, rfl⟩
                refine .sl hj (by omega) (by omega) ?_ fun ob' hob' => ⟨(hv ob' hob').1, fun ev => ?_⟩
                · by_cases h0 : h - l = 0
                  · exact .inl h0
                  · right
                    rcases hA with hA | ⟨a, rfl⟩
                    · omega
                    · exact ⟨_, by rw [if_neg (by omega)]; rfl⟩
                · rw [hob] at hob'
                  injection hob' with hob'
                  subst hob'
                  rcases (hv ob hob).2 ev with ⟨hc0, hn0, hj0⟩ | ⟨hc1, b, hb, rfl, hcap⟩
                  · left
                    refine ⟨by omega, by omega, fun h0 => hj0 ?_⟩
                    exact Nat.eq_zero_of_add_eq_zero_right h0
                  · by_cases hml' : m' = l
                    · left
                      refine ⟨by omega, by omega, fun h0 => ?_⟩
                      exfalso
                      have h1 := Nat.eq_zero_of_add_eq_zero_left h0
                      rcases Nat.mul_eq_zero.1 h1 with h1 | h1
                      · cases hmx0 : mx.isSome with
                        | true =>
                          apply hml
                          have := hm2 hmx0
                          simp [hmx0]; omega
                        | false =>
                          have : mx = none := by cases mx <;> simp at hmx0 ⊢
                          have := hm0 (hmx.2 this)
                          omega
                      · omega
                    · right
                      refine ⟨by omega, b, hb, by rw [if_neg hml']; simp [addr_add], ?_⟩
                      rw [← hsz]
                      have h1 : l * ob.sz + (m' - l) * ob.sz = m' * ob.sz := by rw [← Nat.add_mul]; congr 1; omega
                      have h2 : m' * ob.sz ≤ c * ob.sz := Nat.mul_le_mul_right _ hmc
                      omega
              · cases hd
            · cases hd
          · rename_i n0 cs
            simp only [ret, Option.some.injEq] at hd
            subst hd
            simp only [lenV, Option.some.injEq] at hlen
            subst hlen
            obtain ⟨A, c, f, rfl, hdA, hnc, hcm, hp, hone⟩ := hx.list_inv
            obtain ⟨m', _, hm2, hlm, hhm', hmc, hr⟩ := shape A c hnc
            refine ⟨_, hr, .pure (.list (fun k => f (l * sz + k)) ?_ (by omega) (by omega) (fun k hk => ?_) fun k hk => hone _ (take_drop_at hk).1), rfl⟩
            · by_cases he : (cs.drop (l * sz)).take ((h - l) * sz) = []
              · exact .inl he
              · right
                rcases hdA with hdA | ⟨ad, rfl, hS, hc⟩
                · subst hdA; simp at he
                · have hlt : l < h := by
                    rcases Nat.lt_or_ge l h with hlt | hge
                    · exact hlt
                    · have : h - l = 0 := by omega
                      rw [this, Nat.zero_mul] at he
                      exact absurd rfl he
                  refine ⟨ad.add (l * sz), by rw [if_neg (by omega)]; rfl, by rw [block_add]; exact hS, fun k hk => ?_⟩
                  rw [add_add]
                  exact hc _ (take_drop_at hk).1
            · obtain ⟨h1, h2⟩ := take_drop_at hk
              rw [h2 h1]
              exact hp _ h1
          · simp only [ret, Option.some.injEq] at hd
            subst hd
            simp only [lenV, Option.some.injEq] at hlen
            subst hlen
            obtain ⟨A, rfl⟩ := hx.nils_inv
            obtain ⟨m', _, hm2, hlm, hhm', hmc, hr⟩ := shape A 0 (Nat.le_refl _)
            have h1 : h - l = 0 := by omega
            have h2 : m' - l = 0 := by omega
            refine ⟨_, hr, ?_, rfl⟩
            simp only [h1, h2]
            exact .pure (.nils _)
          · cases hd
      · cases hd
    · cases hd
  · cases hd

/-! ### Bytes of a string -/
theorem bytes_at {s : ByteArray} {i : Nat} {c : UInt8} (h : s.data.toList[i]? = some c) : s[i]? = some c := by
  obtain ⟨hi, hc⟩ := List.getElem?_eq_some_iff.1 h
  have hi' : i < s.size := by simpa using hi
  have : s[i]? = some s[i] := by simp [hi']
  rw [this]
  rw [← hc]
  rfl

theorem index_str_run {t : TypeId} (hu : P.underlying t = some .string) {s : ByteArray} {k : IntKind} {i : Int} {c : UInt8} (h0 : 0 ≤ i) (h : s.data.toList[i.toNat]? = some c) :
    (Instr.index t (.string s) (.int k i)).run P w = .ok (.int .u8 c.toNat) w := by
  have := bytes_at h
  simp [Instr.index, asIntOf, run_underlying hu, h0, this]

end
end Go.Proofs.Ytacfkfdnncgjcaa.Ev
end
