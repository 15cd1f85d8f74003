/- The abstract interpreter: operations on memory. Conditions: none. -/
import Derived.Test.YtclebbjpacpbmaaEvG
set_option linter.unusedVariables false
set_option linter.unusedSimpArgs false
namespace Go.Proofs.Ytclebbjpacpbmaa.Ev
open Go

theorem Pers.trans {w w1 w2 : World} {S S1 S2 : Nat → Prop} {J J1 J2 : Nat → Option (Option Nat)} {H H1 H2 : Nat → Option Ob} (p : Pers w S J H w1 S1 J1 H1) (q : Pers w1 S1 J1 H1 w2 S2 J2 H2) : Pers w S J H w2 S2 J2 H2 where
  hS := fun b h => q.hS b (p.hS b h)
  hw := fun b h => (q.hw b (p.hS b h)).trans (p.hw b h)
  hJ := fun id h => q.hJ id (p.hJ id h)
  hH := fun id ob' h e => by
    obtain ⟨ob1, h1, c1⟩ := q.hH id ob' (p.hJ id h) e
    obtain ⟨ob, h0, c0⟩ := p.hH id ob1 h h1
    refine ⟨ob, h0, ?_⟩
    rcases c1 with c1 | ⟨c1, z1, j1, b1⟩
    · rcases c0 with c0 | ⟨c0, _⟩
      · left; omega
      · left; omega
    · rcases c0 with c0 | ⟨c0, z0, j0, b0⟩
      · left; omega
      · exact .inr ⟨c0.trans c1, z0.trans z1, j1.trans j0, fun b hb => (b1 b (by rw [j0]; exact hb)).trans (b0 b hb)⟩

/-- What an operation has come to, seen from the state ahead of it. -/
structure Out (B : Beg) (H : Nat → Option Ob) (w : World) (g : Gh) (b : Nat) (d : D) (z : Value) (w' : World) (g' : Gh) : Prop where
  v : VR w' g'.S g'.J (appW H d.wr) d.v z
  m : MR B (appW H d.wr) w' g'
  p : Pers w g.S g.J H w' g'.S g'.J (appW H d.wr)
  ids : ∀ id, g'.J id ≠ none → g.J id ≠ none ∨ (b ≤ id ∧ id < b + 64)

theorem Out.okd {B : Beg} {H : Nat → Option Ob} {w : World} {g : Gh} {b : Nat} {v : V} {rd : List Nat} {wr : List (Nat × Option Ob)} {z : Value} {w' : World} {g' : Gh} (k : Bool) (h : Out B H w g b { v := v, rd := rd, wr := wr } z w' g') :
    Out B H w g b { v := v, rd := rd, wr := wr, ok := k } z w' g' := ⟨h.v, h.m, h.p, h.ids⟩

section
variable {B : Beg} {H : Nat → Option Ob} {w : World} {g : Gh} {P : Program} {b : Nat}

theorem Out.same (m : MR B H w g) {d : D} {z : Value} (hw : d.wr = []) (hv : VR w g.S g.J H d.v z) : Out B H w g b d z w g := by
  have e : appW H d.wr = H := by rw [hw]; rfl
  exact ⟨by rw [e]; exact hv, by rw [e]; exact m, by rw [e]; exact .refl .., fun id h => .inl h⟩

/-- A new object, and the value that leads to it. -/
theorem Out.made (m : MR B H w g) (hb0 : g.J b = none) {lv sz : Nat} {cells : List V} {gone rd : List Nat} {arr : Array Value} {e : TypeId} {fr : Nat × Nat} {w' : World} {v : V} {z : Value} (fp : Nat → List Nat)
    (hos : w'.os = w.os) (htape : w'.tape = w.tape) (hout : w'.output = w.output) (hsize : w'.heap.size = w.heap.size + 1)
    (hheap : ∀ b, b < w.heap.size → w'.heap[b]? = w.heap[b]?) (hb : w'.heap[w.heap.size]? = some (.cells arr e fr)) (hz : unfz arr fr)
    (hl : cells.length ≤ arr.size) (hc : ∀ k (hk : k < cells.length), CR w g.S g.J H cells[k] (arr.getD k Go.undef) (fp k)) (h1 : ∀ k, k < cells.length → (arr.getD k Go.undef).oneCell' = true)
    (hn : ((List.range cells.length).flatMap fp).Nodup) (hf : ∀ b, b ∈ (List.range cells.length).flatMap fp → ∃ id ob, id ∈ gone ∧ H id = some ob ∧ 1 ≤ ob.lv ∧ b ∈ g.F id)
    (hv : ∀ (S' : Nat → Prop) (J' : Nat → Option (Option Nat)) (H' : Nat → Option Ob), J' b = some (some w.heap.size) → H' b = some ⟨0, lv, sz, cells⟩ → VR w' S' J' H' v z) :
    ∃ g', Out B H w g b { v := v, rd := rd, wr := (gone.map fun i => (i, none)) ++ [(b, some ⟨0, lv, sz, cells⟩)] } z w' g' := by
  obtain ⟨g', hS, hJ, hm, hp⟩ := m.made hb0 (lv := lv) (sz := sz) (gone := gone) fp hos htape hout hsize hheap hb hz hl hc h1 hn hf
  refine ⟨g', hv _ _ _ (by rw [hJ, upd_same]) (by rw [appW_put, if_pos rfl]), hm, hp, fun id h => ?_⟩
  rw [hJ] at h
  by_cases e : id = b
  · subst e; right; omega
  · rw [upd_ne _ _ _ _ e] at h; exact .inl h

theorem VR.ptr0 {w : World} {S : Nat → Prop} {J : Nat → Option (Option Nat)} {H : Nat → Option Ob} {id c : Nat} (h : J id = some (some c)) : VR w S J H (.ptr id 0 0) (.pointer (some ⟨c, 0, none⟩)) :=
  .ptr (by rw [h]; simp) fun ob _ => ⟨Nat.zero_le _, fun _ => ⟨c, h, rfl⟩⟩

theorem VR.sl0 {w : World} {S : Nat → Prop} {J : Nat → Option (Option Nat)} {H : Nat → Option Ob} {id c ver n cap : Nat} {ob : Ob} (h : J id = some (some c)) (hH : H id = some ob) (hv : ob.ver = ver) (hn : n ≤ cap) (hm : cap ≤ maxLen) (hc1 : 1 ≤ cap) (hc : cap * ob.sz ≤ bsz w c) :
    VR w S J H (.sl id ver 0 n) (.slice (some ⟨c, 0, none⟩) n cap) :=
  .sl (by rw [h]; simp) hn hm (.inr ⟨_, rfl⟩) fun ob' h' => by
    rw [hH] at h'
    injection h' with h'
    subst h'
    exact ⟨by omega, fun _ => .inr ⟨hc1, c, h, rfl, by omega⟩⟩

theorem heap_push {w : World} {o : Obj} : (∀ b, b < w.heap.size → (w.heap.push o)[b]? = w.heap[b]?) ∧ (w.heap.push o)[w.heap.size]? = some o :=
  ⟨fun b hb => by rw [Array.getElem?_push, if_neg (by omega)], by simp⟩

theorem zero_sound {t : TypeId} {cs : List V} (h : zeroT P t = some cs) : ∃ (i : TypeInfo) (z : Value), P.info? t = some i ∧ i.zero = some z ∧ cs.length = z.cells.size ∧
    ∀ k (hk : k < cs.length), PR w g.S cs[k] (z.cells.getD k Go.undef) ∧ (z.cells.getD k Go.undef).oneCell' = true := by
  unfold zeroT at h
  split at h
  · rename_i z hz
    obtain ⟨i, hi, hz⟩ := Option.bind_eq_some_iff.1 hz
    have hl := mapM_len h
    refine ⟨i, z, hi, hz, by simpa using hl, fun k hk => ?_⟩
    have hk' : k < z.cells.toList.length := by omega
    have hm := mapM_at h k hk' hk
    have hg : z.cells.getD k Go.undef = z.cells.toList[k] := by
      have : k < z.cells.size := by simpa using hk'
      simp [Array.getD, this]
    rw [hg]
    exact ⟨ofS_sound hm, ofS_one hm⟩
  · cases h

theorem alloc_sound (m : MR B H w g) (hb : g.J b = none) {t : TypeId} {cs : List V} (h : zeroT P t = some cs) :
    ∃ z w' g', (Instr.alloc t true (.tuple #[])).run P w = .ok z w' ∧ Out B H w g b { v := .ptr b 0 0, wr := [(b, some ⟨0, 1, 1, cs⟩)] } z w' g' := by
  obtain ⟨i, z, hi, hz, hl, hc⟩ := zero_sound (w := w) (g := g) h
  obtain ⟨h1, h2⟩ := heap_push (w := w) (o := .cells z.cells t)
  obtain ⟨g', o⟩ := Out.made (gone := []) (rd := []) (lv := 1) (sz := 1) (w' := w.alloc (.cells z.cells t)) m hb (v := .ptr b 0 0) (z := .pointer (some ⟨w.heap.size, 0, none⟩)) (cells := cs) (fun _ => []) rfl rfl rfl (by show (w.heap.push _).size = _; simp) h1 h2
    (fun k _ h => by simp at h) (by omega) (fun k hk => .inl ⟨.pure (hc k hk).1, rfl⟩) (fun k hk => (hc k hk).2) (by rw [fm_nil]; exact List.nodup_nil) (fun c h => by rw [fm_nil] at h; cases h)
    (fun S' J' H' hJ hH => .ptr0 hJ)
  exact ⟨_, _, g', by simp [Instr.alloc, zeroValue, typeInfo, hi, hz, newVar, newRow], o⟩

theorem cells_sound {S : Nat → Prop} {J : Nat → Option (Option Nat)} {v : V} {x : Value} {vs : List V} (h : V.cells v = some vs) (hv : VR w S J H v x) :
    vs.length = x.cells.size ∧ ∀ k (hk : k < vs.length), VR w S J H vs[k] (x.cells.getD k Go.undef) ∧ (x.cells.getD k Go.undef).oneCell' = true := by
  have one : ∀ {u : V} {y : Value}, VR w S J H u y → y.oneCell' = true → y.cells = #[y] → [u].length = y.cells.size ∧ ∀ k (hk : k < [u].length), VR w S J H [u][k] (y.cells.getD k Go.undef) ∧ (y.cells.getD k Go.undef).oneCell' = true := fun {u y} hu h1 hc => by
    rw [hc]
    refine ⟨rfl, fun k hk => ?_⟩
    have : k = 0 := by simpa using hk
    subst this
    exact ⟨hu, h1⟩
  cases hv with
  | any x => simp [V.cells] at h
  | pure hp =>
    cases hp with
    | agg hl hc h1 =>
      simp only [V.cells, Option.some.injEq] at h
      subst h
      exact ⟨hl, fun k hk => ⟨.pure (hc k hk), h1 k hk⟩⟩
    | undef => simp [V.cells] at h
    | tup hl h => simp [V.cells] at h
    | _ => simp only [V.cells, Option.some.injEq] at h; subst h; exact one (.pure (by constructor <;> assumption)) rfl rfl
  | sl hj hlc hcm hA h' => simp only [V.cells, Option.some.injEq] at h; subst h; exact one (.sl hj hlc hcm hA h') rfl rfl
  | ptr hj h' => simp only [V.cells, Option.some.injEq] at h; subst h; exact one (.ptr hj h') rfl rfl
  | func h1 h2 hf hc => simp only [V.cells, Option.some.injEq] at h; subst h; exact one (.func h1 h2 hf hc) rfl rfl
  | iface h' => simp only [V.cells, Option.some.injEq] at h; subst h; exact one (.iface h') rfl rfl
  | agg hl hc h1 =>
    simp only [V.cells, Option.some.injEq] at h
    subst h
    exact ⟨hl, fun k hk => ⟨hc k hk, h1 k hk⟩⟩
  | tup hl h' => simp [V.cells] at h

theorem box_sound (m : MR B H w g) (hb : g.J b = none) {t : TypeId} {v : V} {x : Value} {cs : List V} (h : v.cells = some cs) (hv : VR w g.S g.J H v x) :
    ∃ z w' g', (Instr.box t x).run P w = .ok z w' ∧ Out B H w g b { v := .ptr b 0 0, wr := [(b, some ⟨0, 1, 1, cs⟩)] } z w' g' := by
  obtain ⟨hl, hc⟩ := cells_sound h hv
  obtain ⟨h1, h2⟩ := heap_push (w := w) (o := .cells x.cells t)
  obtain ⟨g', o⟩ := Out.made (gone := []) (rd := []) (lv := 1) (sz := 1) (w' := w.alloc (.cells x.cells t)) m hb (v := .ptr b 0 0) (z := .pointer (some ⟨w.heap.size, 0, none⟩)) (cells := cs) (fun _ => []) rfl rfl rfl (by show (w.heap.push _).size = _; simp) h1 h2
    (fun k _ h => by simp at h) (by omega) (fun k hk => .inl ⟨(hc k hk).1, rfl⟩) (fun k hk => (hc k hk).2) (by rw [fm_nil]; exact List.nodup_nil) (fun c h => by rw [fm_nil] at h; cases h)
    (fun S' J' H' hJ hH => .ptr0 hJ)
  exact ⟨_, _, g', by simp [Instr.box, newVar, newRow], o⟩

/-- A block that nothing leads to. -/
theorem MR.grow (m : MR B H w g) {w' : World} (hsize : w.heap.size ≤ w'.heap.size) (h1' : ∀ c : Nat, c < w.heap.size → w'.heap[c]? = w.heap[c]?) (hos : w'.os = w.os) (htape : w'.tape = w.tape) (hout : w'.output = w.output) : MR B H w' g ∧ Pers w g.S g.J H w' g.S g.J H := by
  have c : Chg B H w g (fun _ => False) H w' g :=
    ⟨fun id _ => ⟨rfl, rfl, rfl⟩, hos, htape, hout, hsize, fun c hc => bsz_of_heap (h1' c hc), fun c hc => .inl (h1' c hc), fun c h => h, fun c h => by have := m.lt c h; omega, m.s1, fun id h => h.elim, fun id ob' h => h.elim,
      fun id ob b _ e hl hj => m.mu id ob b e hl hj, fun hs id ob _ e hl b hb => m.ms hs id ob e hl b hb⟩
  exact ⟨c.next m fun id ob h => h.elim, c.toPers m⟩

theorem MR.push (m : MR B H w g) {w' : World} {o : Obj} (hheap : w'.heap = w.heap.push o) (hos : w'.os = w.os) (htape : w'.tape = w.tape) (hout : w'.output = w.output) : MR B H w' g ∧ Pers w g.S g.J H w' g.S g.J H := by
  obtain ⟨h1, h2⟩ := heap_push (w := w) (o := o)
  exact m.grow (by rw [hheap]; simp) (fun c hc => by rw [hheap]; exact h1 c hc) hos htape hout

/-- A new object without cells. -/
theorem Out.empty (m : MR B H w g) (hb0 : g.J b = none) {w' : World} (h : MR B H w' g ∧ Pers w g.S g.J H w' g.S g.J H) (lv sz : Nat) (rd : List Nat) (A : Option Addr) :
    ∃ g', Out B H w g b { v := .sl b 0 0 0, rd := rd, wr := [(b, some ⟨0, lv, sz, []⟩)] } (.slice A 0 0) w' g' := by
  obtain ⟨m1, p1⟩ := h
  obtain ⟨r1, r2⟩ := m1.put0 (x := b) (gone := []) (ob' := ⟨0, lv, sz, []⟩) (jo' := none) (F' := []) (w' := w') rfl rfl rfl (Nat.le_refl _) (fun _ _ => rfl) (fun _ _ => .inl rfl) (fun h => absurd hb0 h) (fun _ => ⟨rfl, rfl⟩) List.nodup_nil
    (fun _ b h => by cases h) (fun _ _ b h => by cases h) (fun b h => by cases h) (fun _ _ _ _ _ b h => by cases h)
  refine ⟨⟨upd g.J b (some none), g.S, upd g.F b []⟩, .sl (by show upd g.J b (some none) b ≠ none; rw [upd_same]; simp) (Nat.le_refl _) (by simp [maxLen]) (.inl rfl) fun ob h => ⟨Nat.zero_le _, fun _ => .inl ⟨rfl, rfl, fun _ => upd_same ..⟩⟩, r1, p1.trans r2, fun id hid => ?_⟩
  by_cases e : id = b
  · subst e; right; omega
  · left
    have hid' : upd g.J b (some none) id ≠ none := hid
    rwa [upd_ne _ _ _ _ e] at hid'

/-! ### Rows of zeros -/
theorem zerosV_len (n : Nat) (z : List V) : (zerosV n z).length = n * z.length := by simp [zerosV]
theorem madeCells_at {zc : Array Value} {n k : Nat} (hk : k < n) (hz : 0 < zc.size) : (madeCells zc n).getD k Go.undef = zc.getD (k % zc.size) Go.undef := by
  have h : k % zc.size < zc.size := Nat.mod_lt _ hz
  have hk' : k < (madeCells zc n).size := by rw [size_madeCells]; exact hk
  simp only [Array.getD, hk', h, dif_pos, Array.getInternal_eq_getElem]
  simp [madeCells, getElem!_def, h]
theorem zeros_sound {t : TypeId} {z : List V} {zc : Array Value} {l n : Nat} (hl : z.length = zc.size) (h0 : 0 < z.length) (hln : l * z.length ≤ n)
    (hc : ∀ k (hk : k < z.length), PR w g.S z[k] (zc.getD k Go.undef) ∧ (zc.getD k Go.undef).oneCell' = true) :
    ∀ k (hk : k < (zerosV l z).length), CR w g.S g.J H (zerosV l z)[k] ((madeCells zc n).getD k Go.undef) [] ∧ ((madeCells zc n).getD k Go.undef).oneCell' = true := fun k hk => by
  have hk' : k < l * z.length := by rw [zerosV_len] at hk; exact hk
  have hm : k % z.length < z.length := Nat.mod_lt _ h0
  rw [madeCells_at (by omega) (by omega), ← hl]
  have e : (zerosV l z)[k] = z[k % z.length] := by
    have : (zerosV l z)[k]? = some z[k % z.length] := by simp [zerosV, hk', hm]
    rw [List.getElem?_eq_getElem hk] at this
    injection this
  rw [e]
  exact ⟨.inl ⟨.pure (hc _ hm).1, rfl⟩, (hc _ hm).2⟩

theorem makeSlice_sound (m : MR B H w g) (hb : g.J b = none) {t e : TypeId} {sz bytes : Nat} {z : List V} {kl kc : IntKind} {l c : Int} (ht : slT P t = some (e, sz, bytes)) (hz : zeroT P e = some z)
    (hcond : z.length = sz ∧ 0 < sz ∧ 0 ≤ l ∧ l ≤ c ∧ c.toNat * bytes ≤ 140737488355328 ∧ c ≤ 9223372036854775807) :
    ∃ z' w' g', (Instr.makeSlice t (.int kl l) (.int kc c)).run P w = .ok z' w' ∧ Out B H w g b { v := .sl b 0 0 l.toNat, wr := [(b, some ⟨0, 2, sz, zerosV l.toNat z⟩)] } z' w' g' := by
  obtain ⟨c1, c2, c3, c4, c5, c6⟩ := hcond
  obtain ⟨hu, i, hi, rfl, rfl⟩ := sl_und ht
  obtain ⟨i', zv, hi', hzv, hl, hc⟩ := zero_sound (w := w) (g := g) hz
  rw [hi] at hi'
  injection hi' with hi'
  subst hi'
  have hby : (i.bytes : Int) * c ≤ 281474976710656 := by
    have h1 : ((c.toNat * i.bytes : Nat) : Int) ≤ 140737488355328 := by omega
    rw [Int.natCast_mul, Int.toNat_of_nonneg (by omega), Int.mul_comm] at h1
    omega
  have hrun := run_make (P := P) w t e i zv hu hi hzv kl kc l c c3 c4 hby c6
  obtain ⟨h1, h2⟩ := heap_push (w := w) (o := .cells (madeCells zv.cells (c.toNat * i.size)) e)
  have hle : l.toNat * z.length ≤ c.toNat * i.size := by rw [c1]; exact Nat.mul_le_mul_right _ (by omega)
  by_cases hc0 : c.toNat = 0
  · have hl0 : l.toNat = 0 := by omega
    have hz0 : zerosV l.toNat z = [] := List.eq_nil_of_length_eq_zero (by rw [zerosV_len, hl0, Nat.zero_mul])
    obtain ⟨g', o⟩ := Out.empty m hb (m.push (w' := w.alloc (.cells (madeCells zv.cells (c.toNat * i.size)) e)) rfl rfl rfl rfl) 2 i.size [] (some ⟨w.heap.size, 0, none⟩)
    rw [hl0, hc0] at hrun
    rw [hz0, hl0]
    rw [hc0] at o
    exact ⟨_, _, g', hrun, o⟩
  have hzs := zeros_sound (g := g) (H := H) (w := w) (t := t) hl (by omega) hle hc
  have hmax : c.toNat ≤ maxLen := by rw [show maxLen = 9223372036854775807 from rfl]; omega
  obtain ⟨g', o⟩ := Out.made (gone := []) (rd := []) (lv := 2) (sz := i.size) (w' := w.alloc (.cells (madeCells zv.cells (c.toNat * i.size)) e)) m hb (v := .sl b 0 0 l.toNat)
    (z := .slice (some ⟨w.heap.size, 0, none⟩) l.toNat c.toNat) (cells := zerosV l.toNat z) (fun _ => []) rfl rfl rfl (by show (w.heap.push _).size = _; simp) h1 h2
    (fun k _ h => by simp at h) (by rw [size_madeCells, zerosV_len]; exact hle) (fun k hk => (hzs k hk).1) (fun k hk => (hzs k hk).2) (by rw [fm_nil]; exact List.nodup_nil) (fun c h => by rw [fm_nil] at h; cases h)
    (fun S' J' H' hJ hH => .sl0 hJ hH rfl (by omega) hmax (by omega) (by
      have h3 : (w.alloc (.cells (madeCells zv.cells (c.toNat * i.size)) e)).heap[w.heap.size]? = some (.cells (madeCells zv.cells (c.toNat * i.size)) e) := h2
      simp only [bsz, h3, size_madeCells]; exact Nat.le_refl _))
  exact ⟨_, _, g', hrun, o⟩
end

end Go.Proofs.Ytclebbjpacpbmaa.Ev
