/- The abstract interpreter: changes of the memory. operations on memory. results taken in; loads. loads and stores. Conditions: none. -/
import Derived.Test.YtacfkfdnncgjcaaEvF
section
set_option linter.unusedVariables false
set_option linter.unusedSimpArgs false
namespace Go.Proofs.Ytacfkfdnncgjcaa.Ev
open Go

theorem appW_append : ∀ (l1 l2 : List (Nat × Option Ob)) (H : Nat → Option Ob), appW H (l1 ++ l2) = appW (appW H l1) l2
  | [], l2, H => rfl
  | (i, o) :: l1, l2, H => appW_append l1 l2 (upd H i o)
theorem appW_gone : ∀ (gone : List Nat) (H : Nat → Option Ob) (id : Nat), appW H (gone.map fun i => (i, none)) id = if id ∈ gone then none else H id
  | [], H, id => by simp [appW]
  | a :: gone, H, id => by
    simp only [List.map_cons, appW, appW_gone gone, List.mem_cons, upd]
    by_cases h1 : id ∈ gone <;> by_cases h2 : id = a <;> simp [h1, h2]
theorem appW_put (H : Nat → Option Ob) (gone : List Nat) (x : Nat) (o : Ob) (id : Nat) :
    appW H ((gone.map fun i => (i, none)) ++ [(x, some o)]) id = if id = x then some o else if id ∈ gone then none else H id := by
  rw [appW_append]
  simp only [appW, upd, appW_gone]

theorem appW_congr : ∀ (l : List (Nat × Option Ob)) (H H' : Nat → Option Ob) (i : Nat), H i = H' i → appW H l i = appW H' l i
  | [], _, _, _, h => h
  | (j, o) :: l, H, H', i, h => appW_congr l _ _ i (by simp only [upd]; split <;> simp [h])

/-! ### Cells of an array -/
def putA (arr : Array Value) (o : Nat) : List Value → Array Value
  | [] => arr
  | v :: r => putA (arr.setIfInBounds o v) (o + 1) r
theorem putA_size : ∀ (vs : List Value) (o : Nat) (arr : Array Value), (putA arr o vs).size = arr.size
  | [], _, _ => rfl
  | v :: r, o, arr => by rw [putA, putA_size r]; simp
theorem putA_out : ∀ (vs : List Value) (o : Nat) (arr : Array Value) (k : Nat), ¬ (o ≤ k ∧ k < o + vs.length) → (putA arr o vs).getD k Go.undef = arr.getD k Go.undef
  | [], _, _, _, _ => rfl
  | v :: r, o, arr, k, h => by
    simp only [List.length_cons] at h
    rw [putA, putA_out r (o + 1) _ k (by omega)]
    have : o ≠ k := by omega
    simp only [Array.getD, Array.size_setIfInBounds]
    split
    · simp only [Array.getInternal_eq_getElem]; rw [Array.getElem_setIfInBounds_ne (by assumption) this]
    · rfl
theorem putA_in : ∀ (vs : List Value) (o : Nat) (arr : Array Value) (k : Nat) (hk : k < vs.length), o + vs.length ≤ arr.size → (putA arr o vs).getD (o + k) Go.undef = vs[k]
  | v :: r, o, arr, 0, _, h => by
    simp only [List.length_cons] at h
    rw [putA, show o + 0 = o from rfl, putA_out r (o + 1) _ o (by omega)]
    have : o < arr.size := by omega
    simp [Array.getD, this]
  | v :: r, o, arr, k + 1, hk, h => by
    simp only [List.length_cons] at h hk
    rw [putA, show o + (k + 1) = o + 1 + k by omega, putA_in r (o + 1) _ k (by omega) (by simp; omega)]
    simp

theorem heap_setCell {w : World} {b o : Nat} {arr : Array Value} {e : TypeId} {fr : Nat × Nat} {v : Value} (h : w.heap[b]? = some (.cells arr e fr)) :
    (w.setCell ⟨b, o, none⟩ v).heap[b]? = some (.cells (arr.setIfInBounds o v) e fr) := by
  simp [World.setCell, Array.getElem?_modify, h]

theorem heap_setCells {b : Nat} : ∀ (vs : List Value) (o : Nat) (w : World) (arr : Array Value) (e : TypeId) (fr : Nat × Nat), w.heap[b]? = some (.cells arr e fr) →
    (w.setCells b o vs).heap[b]? = some (.cells (putA arr o vs) e fr) ∧ (∀ k, k ≠ b → (w.setCells b o vs).heap[k]? = w.heap[k]?) ∧ (w.setCells b o vs).heap.size = w.heap.size ∧
      (w.setCells b o vs).os = w.os ∧ (w.setCells b o vs).tape = w.tape ∧ (w.setCells b o vs).output = w.output
  | [], _, w, _, _, _, h => ⟨h, fun _ _ => rfl, rfl, rfl, rfl, rfl⟩
  | v :: r, o, w, arr, e, fr, h => by
    obtain ⟨h1, h2, h3, h4, h5, h6⟩ := heap_setCells r (o + 1) (w.setCell ⟨b, o, none⟩ v) _ e fr (heap_setCell (o := o) (v := v) h)
    refine ⟨h1, fun k hk => (h2 k hk).trans ?_, h3.trans (by simp [World.setCell]), h4, h5, h6⟩
    exact Go.RowKit.Below.heap_setCell w ⟨b, o, none⟩ v k hk

section
variable {B : Beg} {H : Nat → Option Ob} {w : World} {g : Gh}

/-- One object is written or made, others go into it. -/
theorem MR.put0 (m : MR B H w g) {x : Nat} {gone : List Nat} {ob' : Ob} {jo' : Option Nat} {F' : List Nat} {w' : World}
    (hos : w'.os = w.os) (htape : w'.tape = w.tape) (hout : w'.output = w.output) (hsize : w.heap.size ≤ w'.heap.size) (hbs : ∀ b, b < w.heap.size → bsz w' b = bsz w b)
    (hblk : ∀ b, b < w.heap.size → w'.heap[b]? = w.heap[b]? ∨ ∃ ob, H x = some ob ∧ 1 ≤ ob.lv ∧ g.J x = some (some b))
    (hver : g.J x ≠ none → ∃ ob, H x = some ob ∧ (ob.ver < ob'.ver ∨ (ob.ver = ob'.ver ∧ ob.sz = ob'.sz ∧ some jo' = g.J x)))
    (hO : Pers w g.S g.J H w' g.S (upd g.J x (some jo')) (appW H ((gone.map fun i => (i, none)) ++ [(x, some ob')])) →
      OR w' g.S (upd g.J x (some jo')) (appW H ((gone.map fun i => (i, none)) ++ [(x, some ob')])) ob' jo' F')
    (hn : F'.Nodup) (hmu : 1 ≤ ob'.lv → ∀ b, jo' = some b → ¬ g.S b) (hms : B.strict = true → 1 ≤ ob'.lv → ∀ b, b ∈ F' → ¬ g.S b) (hnew : ∀ b, b ∈ F' → b ∈ B.fp ∨ B.w.heap.size ≤ b)
    (hdj : ∀ id ob, id ≠ x → id ∉ gone → H id = some ob → ∀ b, b ∈ F' → b ∉ g.F id) :
    MR B (appW H ((gone.map fun i => (i, none)) ++ [(x, some ob')])) w' ⟨upd g.J x (some jo'), g.S, upd g.F x F'⟩ ∧
      Pers w g.S g.J H w' g.S (upd g.J x (some jo')) (appW H ((gone.map fun i => (i, none)) ++ [(x, some ob')])) := by
  have c : Chg B H w g (fun id => id = x ∨ id ∈ gone) (appW H ((gone.map fun i => (i, none)) ++ [(x, some ob')])) w' ⟨upd g.J x (some jo'), g.S, upd g.F x F'⟩ := by
    constructor
    · intro id hc
      simp only [not_or] at hc
      refine ⟨by rw [appW_put]; simp [hc], upd_ne _ _ _ _ hc.1, upd_ne _ _ _ _ hc.1⟩
    · exact hos
    · exact htape
    · exact hout
    · exact hsize
    · exact hbs
    · intro b hb
      exact (hblk b hb).imp (fun h => h) fun ⟨ob, h1, h2, h3⟩ => ⟨x, ob, .inl rfl, h1, m.own h1 h3, m.mu x ob b h1 h2 h3⟩
    · exact fun b h => h
    · exact fun b h => Nat.lt_of_lt_of_le (m.lt b h) hsize
    · exact m.s1
    · intro id hc hj
      by_cases e : id = x
      · subst e; simp [upd_same]
      · show upd g.J x (some jo') id ≠ none
        rw [upd_ne _ _ _ _ e]; exact hj
    · intro id ob'' hc hj he
      by_cases e : id = x
      · subst e
        rw [appW_put, if_pos rfl] at he
        injection he with he
        subst he
        obtain ⟨ob, h1, h2⟩ := hver hj
        exact ⟨ob, h1, h2.imp (fun h => h) fun h => ⟨h.1, h.2.1, by show upd g.J id (some jo') id = _; rw [upd_same]; exact h.2.2⟩⟩
      · have hg := hc.resolve_left e
        rw [appW_put, if_neg e, if_pos hg] at he
        cases he
    · exact fun id ob b hc e hl hj => m.mu id ob b e hl hj
    · exact fun hs id ob hc e hl b hb => m.ms hs id ob e hl b hb
  have p := c.toPers m
  refine ⟨c.next m ?_, p⟩
  intro id ob'' hc he
  have e : id = x := by
    rcases hc with e | hg
    · exact e
    · by_cases e : id = x
      · exact e
      · rw [appW_put, if_neg e, if_pos hg] at he; cases he
  subst e
  rw [appW_put, if_pos rfl] at he
  injection he with he
  subst he
  refine ⟨jo', upd_same .., by simpa [upd_same] using hO p, by simpa [upd_same] using hn, fun hl => ⟨fun b hb => hmu hl b hb, fun hs b hb => ?_⟩, fun b hb => ?_, fun id2 ob2 hne h2 b hb hb2 => ?_⟩
  · simp only [upd_same] at hb; exact hms hs hl b hb
  · simp only [upd_same] at hb; exact hnew b hb
  · simp only [upd_same] at hb
    simp only [upd_ne _ _ _ _ hne] at hb2
    have hng : id2 ∉ gone := fun hg => by rw [appW_put, if_neg hne, if_pos hg] at h2; cases h2
    rw [appW_put, if_neg hne, if_neg hng] at h2
    exact hdj id2 ob2 hne hng h2 b hb hb2

/-- One object is written or made, others go into it. -/
theorem MR.put (m : MR B H w g) {x : Nat} {gone : List Nat} {ob' : Ob} {jo' : Option Nat} {F' : List Nat} {w' : World}
    (hos : w'.os = w.os) (htape : w'.tape = w.tape) (hout : w'.output = w.output) (hsize : w.heap.size ≤ w'.heap.size) (hbs : ∀ b, b < w.heap.size → bsz w' b = bsz w b)
    (hblk : ∀ b, b < w.heap.size → w'.heap[b]? = w.heap[b]? ∨ ∃ ob, H x = some ob ∧ 1 ≤ ob.lv ∧ g.J x = some (some b))
    (hver : g.J x ≠ none → ∃ ob, H x = some ob ∧ (ob.ver < ob'.ver ∨ (ob.ver = ob'.ver ∧ ob.sz = ob'.sz ∧ some jo' = g.J x)))
    (hO : Pers w g.S g.J H w' g.S (upd g.J x (some jo')) (appW H ((gone.map fun i => (i, none)) ++ [(x, some ob')])) →
      OR w' g.S (upd g.J x (some jo')) (appW H ((gone.map fun i => (i, none)) ++ [(x, some ob')])) ob' jo' F')
    (hn : F'.Nodup) (hjo : ∀ b, jo' = some b → w.heap.size ≤ b ∨ ∃ ob, H x = some ob ∧ 1 ≤ ob.lv ∧ g.J x = some (some b))
    (hfrom : ∀ b, b ∈ F' → w.heap.size ≤ b ∨ ∃ id ob, (id = x ∨ id ∈ gone) ∧ H id = some ob ∧ 1 ≤ ob.lv ∧ b ∈ g.F id) :
    MR B (appW H ((gone.map fun i => (i, none)) ++ [(x, some ob')])) w' ⟨upd g.J x (some jo'), g.S, upd g.F x F'⟩ ∧
      Pers w g.S g.J H w' g.S (upd g.J x (some jo')) (appW H ((gone.map fun i => (i, none)) ++ [(x, some ob')])) := by
  refine m.put0 hos htape hout hsize hbs hblk hver hO hn (fun _ b hb hS => ?_) (fun hs _ b hb hS => ?_) (fun b hb => ?_) fun id2 ob2 hne hng h2 b hb hb2 => ?_
  · rcases hjo b hb with h | ⟨ob, h1, h2, h3⟩
    · have := m.lt b hS; omega
    · exact m.mu x ob b h1 h2 h3 hS
  · rcases hfrom b hb with h | ⟨id3, ob3, _, h1, h2, h3⟩
    · have := m.lt b hS; omega
    · exact m.ms hs id3 ob3 h1 h2 b h3 hS
  · rcases hfrom b hb with h | ⟨id3, ob3, _, h1, h2, h3⟩
    · have := m.size; right; omega
    · exact m.new id3 ob3 h1 b h3
  · rcases hfrom b hb with h | ⟨id3, ob3, h0, h1, hl3, h3⟩
    · have := m.flt h2 b hb2; omega
    · refine m.dj id3 id2 ob3 ob2 (fun e => ?_) h1 h2 b h3 hb2
      rcases h0 with h0 | h0
      · exact hne (by rw [← e, h0])
      · exact hng (by rw [← e]; exact h0)

theorem bsz_of_heap {w w' : World} {b : Nat} (h : w'.heap[b]? = w.heap[b]?) : bsz w' b = bsz w b := by simp only [bsz, h]

/-- A new object. -/
theorem MR.made (m : MR B H w g) {x : Nat} (hx : g.J x = none) {lv sz : Nat} {cells : List V} {gone : List Nat} {arr : Array Value} {e : TypeId} {fr : Nat × Nat} {w' : World} (fp : Nat → List Nat)
    (hos : w'.os = w.os) (htape : w'.tape = w.tape) (hout : w'.output = w.output) (hsize : w'.heap.size = w.heap.size + 1)
    (hheap : ∀ b, b < w.heap.size → w'.heap[b]? = w.heap[b]?) (hb : w'.heap[w.heap.size]? = some (.cells arr e fr)) (hz : unfz arr fr)
    (hl : cells.length ≤ arr.size) (hc : ∀ k (hk : k < cells.length), CR w g.S g.J H cells[k] (arr.getD k Go.undef) (fp k)) (h1 : ∀ k, k < cells.length → (arr.getD k Go.undef).oneCell' = true)
    (hn : ((List.range cells.length).flatMap fp).Nodup) (hf : ∀ b, b ∈ (List.range cells.length).flatMap fp → ∃ id ob, id ∈ gone ∧ H id = some ob ∧ 1 ≤ ob.lv ∧ b ∈ g.F id) :
    ∃ g', g'.S = g.S ∧ g'.J = upd g.J x (some (some w.heap.size)) ∧ MR B (appW H ((gone.map fun i => (i, none)) ++ [(x, some ⟨0, lv, sz, cells⟩)])) w' g' ∧
      Pers w g.S g.J H w' g'.S g'.J (appW H ((gone.map fun i => (i, none)) ++ [(x, some ⟨0, lv, sz, cells⟩)])) := by
  have hlt : ∀ b, b ∈ (List.range cells.length).flatMap fp → b < w.heap.size := fun b hb => by
    obtain ⟨id, ob, _, h, _, hF⟩ := hf b hb
    exact m.flt h b hF
  obtain ⟨r1, r2⟩ := m.put (x := x) (gone := gone) (ob' := ⟨0, lv, sz, cells⟩) (jo' := some w.heap.size) (F' := w.heap.size :: (List.range cells.length).flatMap fp) (w' := w')
    hos htape hout (by omega) (fun b hb => bsz_of_heap (hheap b hb)) (fun b hb => .inl (hheap b hb)) (fun h => absurd hx h)
    (fun p => ⟨arr, e, fr, fp, hb, hz, hl, fun k hk => (hc k hk).mono p fun b hb' => hheap b (hlt b (mem_fm.2 ⟨k, hk, hb'⟩)), h1, rfl⟩)
    (List.nodup_cons.2 ⟨fun h => by have := hlt _ h; omega, hn⟩)
    (fun b hb => by injection hb with hb; left; omega)
    (fun b hb => by
      rcases List.mem_cons.1 hb with rfl | hb
      · left; omega
      · obtain ⟨id, ob, h1, h2, h3, h4⟩ := hf b hb
        exact .inr ⟨id, ob, .inr h1, h2, h3, h4⟩)
  exact ⟨⟨upd g.J x (some (some w.heap.size)), g.S, _⟩, rfl, rfl, r1, r2⟩

/-- Cells of an object's block are written. -/
theorem MR.write (m : MR B H w g) {id b : Nat} {ob : Ob} (hH : H id = some ob) (hJ : g.J id = some (some b)) (hlv : 1 ≤ ob.lv) {gone : List Nat} (hg : id ∉ gone) {off v' : Nat} {vs cells' : List V} {xs : List Value} (fp : Nat → List Nat)
    (hv : ob.ver ≤ v') (hxs : vs.length = xs.length) (hcap : cells'.length ≤ bsz w b) (hfit : off + vs.length ≤ bsz w b)
    (hin : ∀ k (hk : k < cells'.length), off ≤ k → ∀ h : k - off < vs.length, cells'[k] = vs[k - off])
    (hold : ∀ k (hk : k < cells'.length), ¬ (off ≤ k ∧ k < off + vs.length) → ∃ h : k < ob.cells.length, cells'[k] = ob.cells[k])
    (hc : ∀ k (hk : k < vs.length) (hk' : k < xs.length), CR w g.S g.J H vs[k] xs[k] (fp k)) (h1 : ∀ x, x ∈ xs → x.oneCell' = true)
    (hn : ((List.range vs.length).flatMap fp).Nodup) (hf : ∀ c, c ∈ (List.range vs.length).flatMap fp → ∃ id ob, id ∈ gone ∧ H id = some ob ∧ 1 ≤ ob.lv ∧ c ∈ g.F id) :
    ∃ g', g'.S = g.S ∧ g'.J = upd g.J id (some (some b)) ∧ MR B (appW H ((gone.map fun i => (i, none)) ++ [(id, some { ob with ver := v', cells := cells' })])) (w.setCells b off xs) g' ∧
      Pers w g.S g.J H (w.setCells b off xs) g'.S g'.J (appW H ((gone.map fun i => (i, none)) ++ [(id, some { ob with ver := v', cells := cells' })])) := by
  obtain ⟨arr, e, fr, fp0, hb, hz, hal, hcells, hone, hF⟩ := m.ob id ob _ hH hJ
  have hbs : bsz w b = arr.size := by simp only [bsz, hb]
  rw [hbs] at hcap hfit
  obtain ⟨q1, q2, q3, q4, q5, q6⟩ := heap_setCells xs off w arr e fr hb
  have hnF := m.nd id ob hH
  rw [hF] at hnF
  obtain ⟨hbn, hnF⟩ := List.nodup_cons.1 hnF
  obtain ⟨n1, n2⟩ := nodup_fm.1 hnF
  obtain ⟨m1, m2⟩ := nodup_fm.1 hn
  -- the new footprints
  let fp' : Nat → List Nat := fun k => if off ≤ k ∧ k < off + vs.length then fp (k - off) else fp0 k
  have hbF : b ∈ g.F id := m.own hH hJ
  have old_in : ∀ k, k < ob.cells.length → ∀ c, c ∈ fp0 k → c ∈ g.F id := fun k hk c hc => by rw [hF]; exact List.mem_cons_of_mem _ (mem_fm.2 ⟨k, hk, hc⟩)
  have new_apart : ∀ k, k < vs.length → ∀ c, c ∈ fp k → c ∉ g.F id := fun k hk c hc hc' => by
    obtain ⟨id2, ob2, h1, h2, _, h3⟩ := hf c (mem_fm.2 ⟨k, hk, hc⟩)
    exact m.dj id2 id ob2 ob (fun e => hg (e ▸ h1)) h2 hH c h3 hc'
  have kind : ∀ k, k < cells'.length → (off ≤ k ∧ k < off + vs.length ∧ fp' k = fp (k - off)) ∨ (¬ (off ≤ k ∧ k < off + vs.length) ∧ k < ob.cells.length ∧ fp' k = fp0 k) := fun k hk => by
    by_cases h : off ≤ k ∧ k < off + vs.length
    · exact .inl ⟨h.1, h.2, if_pos h⟩
    · obtain ⟨h', _⟩ := hold k hk h
      exact .inr ⟨h, h', if_neg h⟩
  have hnb : ∀ k, k < cells'.length → ∀ c, c ∈ fp' k → c ≠ b := fun k hk c hc e => by
    subst e
    rcases kind k hk with ⟨ha, hb', e⟩ | ⟨_, hk', e⟩
    · rw [e] at hc; exact new_apart _ (by omega) _ hc hbF
    · rw [e] at hc; exact hbn (mem_fm.2 ⟨k, hk', hc⟩)
  obtain ⟨r1, r2⟩ := m.put (x := id) (gone := gone) (ob' := { ob with ver := v', cells := cells' }) (jo' := some b) (F' := b :: (List.range cells'.length).flatMap fp') (w' := w.setCells b off xs)
    q4 q5 q6 (by omega) (fun c hc => by
      by_cases e : c = b
      · subst e; simp only [bsz, q1, hb, putA_size]
      · exact bsz_of_heap (q2 c e))
    (fun c hc => by
      by_cases e : c = b
      · subst e; exact .inr ⟨ob, hH, hlv, hJ⟩
      · exact .inl (q2 c e))
    (fun _ => ⟨ob, hH, by
      rcases Nat.lt_or_ge ob.ver v' with h | h
      · exact .inl h
      · exact .inr ⟨by show ob.ver = v'; omega, rfl, hJ.symm⟩⟩)
    (fun p => by
      refine ⟨putA arr off xs, e, fr, fp', q1, fun k hk => hz k (by rw [putA_size] at hk; exact hk), by rw [putA_size]; exact hcap, fun k hk => ?_, fun k hk => ?_, rfl⟩
      · refine CR.mono p ?_ fun c hc => q2 c (hnb k hk c hc)
        rcases kind k hk with ⟨ha, hb', e⟩ | ⟨hno, hk', e⟩
        · show CR w g.S g.J H cells'[k] _ (fp' k)
          rw [e, hin k hk ha (by omega)]
          have := putA_in xs off arr (k - off) (by omega) (by omega)
          rw [show off + (k - off) = k by omega] at this
          rw [this]
          exact hc (k - off) (by omega) (by omega)
        · obtain ⟨_, h⟩ := hold k hk hno
          show CR w g.S g.J H cells'[k] _ (fp' k)
          rw [e, h, putA_out xs off arr k (by omega)]
          exact hcells k hk'
      · rcases kind k hk with ⟨ha, hb', e⟩ | ⟨hno, hk', e⟩
        · have := putA_in xs off arr (k - off) (by omega) (by omega)
          rw [show off + (k - off) = k by omega] at this
          rw [this]
          exact h1 _ (List.getElem_mem _)
        · rw [putA_out xs off arr k (by omega)]
          exact hone k hk')
    (by
      refine List.nodup_cons.2 ⟨fun h => ?_, nodup_fm.2 ⟨fun k hk => ?_, fun i j hij hj c hc hc' => ?_⟩⟩
      · obtain ⟨k, hk, h⟩ := mem_fm.1 h
        exact hnb k hk b h rfl
      · rcases kind k hk with ⟨ha, hb', e⟩ | ⟨hno, hk', e⟩
        · rw [e]; exact m1 _ (by omega)
        · rw [e]; exact n1 _ hk'
      · rcases kind i (by omega) with ⟨ha, hb', e⟩ | ⟨hno, hk', e⟩ <;> rcases kind j hj with ⟨ha2, hb2, e2⟩ | ⟨hno2, hk2, e2⟩ <;> rw [e] at hc <;> rw [e2] at hc'
        · exact m2 (i - off) (j - off) (by omega) (by omega) c hc hc'
        · exact new_apart _ (by omega) c hc (old_in j hk2 c hc')
        · exact new_apart _ (by omega) c hc' (old_in i hk' c hc)
        · exact n2 i j hij hk2 c hc hc')
    (fun c hc => by injection hc with hc; subst hc; exact .inr ⟨ob, hH, hlv, hJ⟩)
    (fun c hc => by
      rcases List.mem_cons.1 hc with rfl | hc
      · exact .inr ⟨id, ob, .inl rfl, hH, hlv, hbF⟩
      · obtain ⟨k, hk, hc⟩ := mem_fm.1 hc
        rcases kind k hk with ⟨ha, hb', e⟩ | ⟨hno, hk', e⟩
        · rw [e] at hc
          obtain ⟨id2, ob2, h1, h2, h3, h4⟩ := hf c (mem_fm.2 ⟨k - off, by omega, hc⟩)
          exact .inr ⟨id2, ob2, .inr h1, h2, h3, h4⟩
        · rw [e] at hc
          exact .inr ⟨id, ob, .inl rfl, hH, hlv, old_in k hk' c hc⟩)
  exact ⟨⟨upd g.J id (some (some b)), g.S, _⟩, rfl, rfl, r1, r2⟩

/-- More blocks are seen: nothing writes them from now on. -/
theorem MR.see (m : MR B H w g) {id : Nat} {ob : Ob} (hH : H id = some ob) (X : Nat → Prop) (hX : ∀ b, X b → b ∈ g.F id ∧ g.J id ≠ some (some b)) (hs : B.strict = true → ∀ b, ¬ X b) :
    MR B H w ⟨g.J, fun b => g.S b ∨ X b, g.F⟩ ∧ Pers w g.S g.J H w (fun b => g.S b ∨ X b) g.J H := by
  have p : Pers w g.S g.J H w (fun b => g.S b ∨ X b) g.J H := ⟨fun b h => .inl h, fun b _ => (rfl : w.heap[b]? = w.heap[b]?), fun _ h => h, fun id ob' _ h => ⟨ob', h, .inr ⟨rfl, rfl, rfl, fun _ _ => rfl⟩⟩⟩
  refine ⟨⟨m.hj, fun id' ob' jo h hj => (m.ob id' ob' jo h hj).mono p fun b _ => (rfl : w.heap[b]? = w.heap[b]?), m.nd, m.dj, fun id' ob' b h hl hj hS => ?_, fun hst id' ob' h hl b hb hS => ?_, m.new, fun b hb => ?_, fun b hb => .inl (m.s0 b hb), fun b hb => ?_, m.os, m.tape, m.output, m.size, m.fm, m.bs⟩, p⟩
  · rcases hS with hS | hS
    · exact m.mu id' ob' b h hl hj hS
    · obtain ⟨h1, h2⟩ := hX b hS
      by_cases e : id' = id
      · subst e; exact h2 hj
      · exact m.dj id' id ob' ob e h hH b (m.own h hj) h1
  · rcases hS with hS | hS
    · exact m.ms hst id' ob' h hl b hb hS
    · exact hs hst b hS
  · rcases hb with hb | hb
    · exact m.lt b hb
    · exact m.flt hH b (hX b hb).1
  · rcases hb with hb | hb
    · exact m.s1 b hb
    · rcases m.new id ob hH b (hX b hb).1 with h | h
      · exact .inr (.inr h)
      · exact .inr (.inl h)

/-- A draw turns nothing. -/
theorem MR.drew (m : MR B H w g) {w' : World} (hheap : w'.heap = w.heap) (hos : w'.os = w.os) (htape : w'.tape = w.tape) (hout : w'.output = w.output) : MR B H w' g ∧ Pers w g.S g.J H w' g.S g.J H := by
  have hb : ∀ b : Nat, w'.heap[b]? = w.heap[b]? := fun b => by rw [hheap]
  have p : Pers w g.S g.J H w' g.S g.J H := ⟨fun b h => h, fun b _ => hb b, fun _ h => h, fun id ob' _ h => ⟨ob', h, .inr ⟨rfl, rfl, rfl, fun b _ => bsz_of_heap (hb b)⟩⟩⟩
  exact ⟨⟨m.hj, fun id' ob' jo h hj => (m.ob id' ob' jo h hj).mono p fun b _ => hb b, m.nd, m.dj, m.mu, m.ms, m.new, fun b h => by rw [hheap]; exact m.lt b h, m.s0, m.s1, hos.trans m.os, htape.trans m.tape, hout.trans m.output,
    by rw [hheap]; exact m.size, fun b h1 h2 => (hb b).trans (m.fm b h1 h2), fun b h => (bsz_of_heap (hb b)).trans (m.bs b h)⟩, p⟩
end

end Go.Proofs.Ytacfkfdnncgjcaa.Ev
end

section
set_option linter.unusedVariables false
set_option linter.unusedSimpArgs false
namespace Go.Proofs.Ytacfkfdnncgjcaa.Ev
open Go

theorem Pers.trans {w w1 w2 : World} {S S1 S2 : Nat → Prop} {J J1 J2 : Nat → Option (Option Nat)} {H H1 H2 : Nat → Option Ob} (p : Pers w S J H w1 S1 J1 H1) (q : Pers w1 S1 J1 H1 w2 S2 J2 H2) : Pers w S J H w2 S2 J2 H2 where
  hS := fun b h => q.hS b (p.hS b h)
  hw := fun b h => (q.hw b (p.hS b h)).trans (p.hw b h)
  hJ := fun id h => q.hJ id (p.hJ id h)
  hH := fun id ob' h e => by
    obtain ⟨ob1, h1, c1⟩ := q.hH id ob' (p.hJ id h) e
    obtain ⟨ob, h0, c0⟩ := p.hH id ob1 h h1
    refine ⟨ob, h0, ?_⟩
    rcases c1 with c1 | ⟨c1, z1, j1, b1⟩
    · rcases c0 with c0 | ⟨c0, _⟩
      · left; omega
      · left; omega
    · rcases c0 with c0 | ⟨c0, z0, j0, b0⟩
      · left; omega
      · exact .inr ⟨c0.trans c1, z0.trans z1, j1.trans j0, fun b hb => (b1 b (by rw [j0]; exact hb)).trans (b0 b hb)⟩

/-- What an operation has come to, seen from the state ahead of it. -/
structure Out (B : Beg) (H : Nat → Option Ob) (w : World) (g : Gh) (b : Nat) (d : D) (z : Value) (w' : World) (g' : Gh) : Prop where
  v : VR w' g'.S g'.J (appW H d.wr) d.v z
  m : MR B (appW H d.wr) w' g'
  p : Pers w g.S g.J H w' g'.S g'.J (appW H d.wr)
  ids : ∀ id, g'.J id ≠ none → g.J id ≠ none ∨ (b ≤ id ∧ id < b + 64)

theorem Out.okd {B : Beg} {H : Nat → Option Ob} {w : World} {g : Gh} {b : Nat} {v : V} {rd : List Nat} {wr : List (Nat × Option Ob)} {z : Value} {w' : World} {g' : Gh} (k : Bool) (h : Out B H w g b { v := v, rd := rd, wr := wr } z w' g') :
    Out B H w g b { v := v, rd := rd, wr := wr, ok := k } z w' g' := ⟨h.v, h.m, h.p, h.ids⟩

section
variable {B : Beg} {H : Nat → Option Ob} {w : World} {g : Gh} {P : Program} {b : Nat}

theorem Out.same (m : MR B H w g) {d : D} {z : Value} (hw : d.wr = []) (hv : VR w g.S g.J H d.v z) : Out B H w g b d z w g := by
  have e : appW H d.wr = H := by rw [hw]; rfl
  exact ⟨by rw [e]; exact hv, by rw [e]; exact m, by rw [e]; exact .refl .., fun id h => .inl h⟩

/-- A new object, and the value that leads to it. -/
theorem Out.made (m : MR B H w g) (hb0 : g.J b = none) {lv sz : Nat} {cells : List V} {gone rd : List Nat} {arr : Array Value} {e : TypeId} {fr : Nat × Nat} {w' : World} {v : V} {z : Value} (fp : Nat → List Nat)
    (hos : w'.os = w.os) (htape : w'.tape = w.tape) (hout : w'.output = w.output) (hsize : w'.heap.size = w.heap.size + 1)
    (hheap : ∀ b, b < w.heap.size → w'.heap[b]? = w.heap[b]?) (hb : w'.heap[w.heap.size]? = some (.cells arr e fr)) (hz : unfz arr fr)
    (hl : cells.length ≤ arr.size) (hc : ∀ k (hk : k < cells.length), CR w g.S g.J H cells[k] (arr.getD k Go.undef) (fp k)) (h1 : ∀ k, k < cells.length → (arr.getD k Go.undef).oneCell' = true)
    (hn : ((List.range cells.length).flatMap fp).Nodup) (hf : ∀ b, b ∈ (List.range cells.length).flatMap fp → ∃ id ob, id ∈ gone ∧ H id = some ob ∧ 1 ≤ ob.lv ∧ b ∈ g.F id)
    (hv : ∀ (S' : Nat → Prop) (J' : Nat → Option (Option Nat)) (H' : Nat → Option Ob), J' b = some (some w.heap.size) → H' b = some ⟨0, lv, sz, cells⟩ → VR w' S' J' H' v z) :
    ∃ g', Out B H w g b { v := v, rd := rd, wr := (gone.map fun i => (i, none)) ++ [(b, some ⟨0, lv, sz, cells⟩)] } z w' g' := by
  obtain ⟨g', hS, hJ, hm, hp⟩ := m.made hb0 (lv := lv) (sz := sz) (gone := gone) fp hos htape hout hsize hheap hb hz hl hc h1 hn hf
  refine ⟨g', hv _ _ _ (by rw [hJ, upd_same]) (by rw [appW_put, if_pos rfl]), hm, hp, fun id h => ?_⟩
  rw [hJ] at h
  by_cases e : id = b
  · subst e; right; omega
  · rw [upd_ne _ _ _ _ e] at h; exact .inl h

theorem VR.ptr0 {w : World} {S : Nat → Prop} {J : Nat → Option (Option Nat)} {H : Nat → Option Ob} {id c : Nat} (h : J id = some (some c)) : VR w S J H (.ptr id 0 0) (.pointer (some ⟨c, 0, none⟩)) :=
  .ptr (by rw [h]; simp) fun ob _ => ⟨Nat.zero_le _, fun _ => ⟨c, h, rfl⟩⟩

theorem VR.sl0 {w : World} {S : Nat → Prop} {J : Nat → Option (Option Nat)} {H : Nat → Option Ob} {id c ver n cap : Nat} {ob : Ob} (h : J id = some (some c)) (hH : H id = some ob) (hv : ob.ver = ver) (hn : n ≤ cap) (hm : cap ≤ maxLen) (hc1 : 1 ≤ cap) (hc : cap * ob.sz ≤ bsz w c) :
    VR w S J H (.sl id ver 0 n) (.slice (some ⟨c, 0, none⟩) n cap) :=
  .sl (by rw [h]; simp) hn hm (.inr ⟨_, rfl⟩) fun ob' h' => by
    rw [hH] at h'
    injection h' with h'
    subst h'
    exact ⟨by omega, fun _ => .inr ⟨hc1, c, h, rfl, by omega⟩⟩

theorem heap_push {w : World} {o : Obj} : (∀ b, b < w.heap.size → (w.heap.push o)[b]? = w.heap[b]?) ∧ (w.heap.push o)[w.heap.size]? = some o :=
  ⟨fun b hb => by rw [Array.getElem?_push, if_neg (by omega)], by simp⟩

theorem zero_sound {t : TypeId} {cs : List V} (h : zeroT P t = some cs) : ∃ (i : TypeInfo) (z : Value), P.info? t = some i ∧ i.zero = some z ∧ cs.length = z.cells.size ∧
    ∀ k (hk : k < cs.length), PR w g.S cs[k] (z.cells.getD k Go.undef) ∧ (z.cells.getD k Go.undef).oneCell' = true := by
  unfold zeroT at h
  split at h
  · rename_i z hz
    obtain ⟨i, hi, hz⟩ := Option.bind_eq_some_iff.1 hz
    have hl := mapM_len h
    refine ⟨i, z, hi, hz, by simpa using hl, fun k hk => ?_⟩
    have hk' : k < z.cells.toList.length := by omega
    have hm := mapM_at h k hk' hk
    have hg : z.cells.getD k Go.undef = z.cells.toList[k] := by
      have : k < z.cells.size := by simpa using hk'
      simp [Array.getD, this]
    rw [hg]
    exact ⟨ofS_sound hm, ofS_one hm⟩
  · cases h

theorem alloc_sound (m : MR B H w g) (hb : g.J b = none) {t : TypeId} {cs : List V} (h : zeroT P t = some cs) :
    ∃ z w' g', (Instr.alloc t true (.tuple #[])).run P w = .ok z w' ∧ Out B H w g b { v := .ptr b 0 0, wr := [(b, some ⟨0, 1, 1, cs⟩)] } z w' g' := by
  obtain ⟨i, z, hi, hz, hl, hc⟩ := zero_sound (w := w) (g := g) h
  obtain ⟨h1, h2⟩ := heap_push (w := w) (o := .cells z.cells t)
  obtain ⟨g', o⟩ := Out.made (gone := []) (rd := []) (lv := 1) (sz := 1) (w' := w.alloc (.cells z.cells t)) m hb (v := .ptr b 0 0) (z := .pointer (some ⟨w.heap.size, 0, none⟩)) (cells := cs) (fun _ => []) rfl rfl rfl (by show (w.heap.push _).size = _; simp) h1 h2
    (fun k _ h => by simp at h) (by omega) (fun k hk => .inl ⟨.pure (hc k hk).1, rfl⟩) (fun k hk => (hc k hk).2) (by rw [fm_nil]; exact List.nodup_nil) (fun c h => by rw [fm_nil] at h; cases h)
    (fun S' J' H' hJ hH => .ptr0 hJ)
  exact ⟨_, _, g', by simp [Instr.alloc, zeroValue, typeInfo, hi, hz, newVar, newRow], o⟩

theorem cells_sound {S : Nat → Prop} {J : Nat → Option (Option Nat)} {v : V} {x : Value} {vs : List V} (h : V.cells v = some vs) (hv : VR w S J H v x) :
    vs.length = x.cells.size ∧ ∀ k (hk : k < vs.length), VR w S J H vs[k] (x.cells.getD k Go.undef) ∧ (x.cells.getD k Go.undef).oneCell' = true := by
  have one : ∀ {u : V} {y : Value}, VR w S J H u y → y.oneCell' = true → y.cells = #[y] → [u].length = y.cells.size ∧ ∀ k (hk : k < [u].length), VR w S J H [u][k] (y.cells.getD k Go.undef) ∧ (y.cells.getD k Go.undef).oneCell' = true := fun {u y} hu h1 hc => by
    rw [hc]
    refine ⟨rfl, fun k hk => ?_⟩
    have : k = 0 := by simpa using hk
    subst this
    exact ⟨hu, h1⟩
  cases hv with
  | any x => simp [V.cells] at h
  | pure hp =>
    cases hp with
    | agg hl hc h1 =>
      simp only [V.cells, Option.some.injEq] at h
      subst h
      exact ⟨hl, fun k hk => ⟨.pure (hc k hk), h1 k hk⟩⟩
    | undef => simp [V.cells] at h
    | tup hl h => simp [V.cells] at h
    | _ => simp only [V.cells, Option.some.injEq] at h; subst h; exact one (.pure (by constructor <;> assumption)) rfl rfl
  | sl hj hlc hcm hA h' => simp only [V.cells, Option.some.injEq] at h; subst h; exact one (.sl hj hlc hcm hA h') rfl rfl
  | ptr hj h' => simp only [V.cells, Option.some.injEq] at h; subst h; exact one (.ptr hj h') rfl rfl
  | func h1 h2 hf hc => simp only [V.cells, Option.some.injEq] at h; subst h; exact one (.func h1 h2 hf hc) rfl rfl
  | iface h' => simp only [V.cells, Option.some.injEq] at h; subst h; exact one (.iface h') rfl rfl
  | agg hl hc h1 =>
    simp only [V.cells, Option.some.injEq] at h
    subst h
    exact ⟨hl, fun k hk => ⟨hc k hk, h1 k hk⟩⟩
  | tup hl h' => simp [V.cells] at h

theorem box_sound (m : MR B H w g) (hb : g.J b = none) {t : TypeId} {v : V} {x : Value} {cs : List V} (h : v.cells = some cs) (hv : VR w g.S g.J H v x) :
    ∃ z w' g', (Instr.box t x).run P w = .ok z w' ∧ Out B H w g b { v := .ptr b 0 0, wr := [(b, some ⟨0, 1, 1, cs⟩)] } z w' g' := by
  obtain ⟨hl, hc⟩ := cells_sound h hv
  obtain ⟨h1, h2⟩ := heap_push (w := w) (o := .cells x.cells t)
  obtain ⟨g', o⟩ := Out.made (gone := []) (rd := []) (lv := 1) (sz := 1) (w' := w.alloc (.cells x.cells t)) m hb (v := .ptr b 0 0) (z := .pointer (some ⟨w.heap.size, 0, none⟩)) (cells := cs) (fun _ => []) rfl rfl rfl (by show (w.heap.push _).size = _; simp) h1 h2
    (fun k _ h => by simp at h) (by omega) (fun k hk => .inl ⟨(hc k hk).1, rfl⟩) (fun k hk => (hc k hk).2) (by rw [fm_nil]; exact List.nodup_nil) (fun c h => by rw [fm_nil] at h; cases h)
    (fun S' J' H' hJ hH => .ptr0 hJ)
  exact ⟨_, _, g', by simp [Instr.box, newVar, newRow], o⟩

/-- A block that nothing leads to. -/
theorem MR.grow (m : MR B H w g) {w' : World} (hsize : w.heap.size ≤ w'.heap.size) (h1' : ∀ c : Nat, c < w.heap.size → w'.heap[c]? = w.heap[c]?) (hos : w'.os = w.os) (htape : w'.tape = w.tape) (hout : w'.output = w.output) : MR B H w' g ∧ Pers w g.S g.J H w' g.S g.J H := by
  have c : Chg B H w g (fun _ => False) H w' g :=
    ⟨fun id _ => ⟨rfl, rfl, rfl⟩, hos, htape, hout, hsize, fun c hc => bsz_of_heap (h1' c hc), fun c hc => .inl (h1' c hc), fun c h => h, fun c h => by have := m.lt c h; omega, m.s1, fun id h => h.elim, fun id ob' h => h.elim,
      fun id ob b _ e hl hj => m.mu id ob b e hl hj, fun hs id ob _ e hl b hb => m.ms hs id ob e hl b hb⟩
  exact ⟨c.next m fun id ob h => h.elim, c.toPers m⟩

theorem MR.push (m : MR B H w g) {w' : World} {o : Obj} (hheap : w'.heap = w.heap.push o) (hos : w'.os = w.os) (htape : w'.tape = w.tape) (hout : w'.output = w.output) : MR B H w' g ∧ Pers w g.S g.J H w' g.S g.J H := by
  obtain ⟨h1, h2⟩ := heap_push (w := w) (o := o)
  exact m.grow (by rw [hheap]; simp) (fun c hc => by rw [hheap]; exact h1 c hc) hos htape hout

/-- A new object without cells. -/
theorem Out.empty (m : MR B H w g) (hb0 : g.J b = none) {w' : World} (h : MR B H w' g ∧ Pers w g.S g.J H w' g.S g.J H) (lv sz : Nat) (rd : List Nat) (A : Option Addr) :
    ∃ g', Out B H w g b { v := .sl b 0 0 0, rd := rd, wr := [(b, some ⟨0, lv, sz, []⟩)] } (.slice A 0 0) w' g' := by
  obtain ⟨m1, p1⟩ := h
  obtain ⟨r1, r2⟩ := m1.put0 (x := b) (gone := []) (ob' := ⟨0, lv, sz, []⟩) (jo' := none) (F' := []) (w' := w') rfl rfl rfl (Nat.le_refl _) (fun _ _ => rfl) (fun _ _ => .inl rfl) (fun h => absurd hb0 h) (fun _ => ⟨rfl, rfl⟩) List.nodup_nil
    (fun _ b h => by cases h) (fun _ _ b h => by cases h) (fun b h => by cases h) (fun _ _ _ _ _ b h => by cases h)
  refine ⟨⟨upd g.J b (some none), g.S, upd g.F b []⟩, .sl (by show upd g.J b (some none) b ≠ none; rw [upd_same]; simp) (Nat.le_refl _) (by simp [maxLen]) (.inl rfl) fun ob h => ⟨Nat.zero_le _, fun _ => .inl ⟨rfl, rfl, fun _ => upd_same ..⟩⟩, r1, p1.trans r2, fun id hid => ?_⟩
  by_cases e : id = b
  · subst e; right; omega
  · left
    have hid' : upd g.J b (some none) id ≠ none := hid
    rwa [upd_ne _ _ _ _ e] at hid'

/-! ### Rows of zeros -/
theorem zerosV_len (n : Nat) (z : List V) : (zerosV n z).length = n * z.length := by simp [zerosV]
theorem madeCells_at {zc : Array Value} {n k : Nat} (hk : k < n) (hz : 0 < zc.size) : (madeCells zc n).getD k Go.undef = zc.getD (k % zc.size) Go.undef := by
  have h : k % zc.size < zc.size := Nat.mod_lt _ hz
  have hk' : k < (madeCells zc n).size := by rw [size_madeCells]; exact hk
  simp only [Array.getD, hk', h, dif_pos, Array.getInternal_eq_getElem]
  simp [madeCells, getElem!_def, h]
theorem zeros_sound {t : TypeId} {z : List V} {zc : Array Value} {l n : Nat} (hl : z.length = zc.size) (h0 : 0 < z.length) (hln : l * z.length ≤ n)
    (hc : ∀ k (hk : k < z.length), PR w g.S z[k] (zc.getD k Go.undef) ∧ (zc.getD k Go.undef).oneCell' = true) :
    ∀ k (hk : k < (zerosV l z).length), CR w g.S g.J H (zerosV l z)[k] ((madeCells zc n).getD k Go.undef) [] ∧ ((madeCells zc n).getD k Go.undef).oneCell' = true := fun k hk => by
  have hk' : k < l * z.length := by rw [zerosV_len] at hk; exact hk
  have hm : k % z.length < z.length := Nat.mod_lt _ h0
  rw [madeCells_at (by omega) (by omega), ← hl]
  have e : (zerosV l z)[k] = z[k % z.length] := by
    have : (zerosV l z)[k]? = some z[k % z.length] := by simp [zerosV, hk', hm]
    rw [List.getElem?_eq_getElem hk] at this
    injection this
  rw [e]
  exact ⟨.inl ⟨.pure (hc _ hm).1, rfl⟩, (hc _ hm).2⟩

theorem makeSlice_sound (m : MR B H w g) (hb : g.J b = none) {t e : TypeId} {sz bytes : Nat} {z : List V} {kl kc : IntKind} {l c : Int} (ht : slT P t = some (e, sz, bytes)) (hz : zeroT P e = some z)
    (hcond : z.length = sz ∧ 0 < sz ∧ 0 ≤ l ∧ l ≤ c ∧ c.toNat * bytes ≤ 140737488355328 ∧ c ≤ 9223372036854775807) :
    ∃ z' w' g', (Instr.makeSlice t (.int kl l) (.int kc c)).run P w = .ok z' w' ∧ Out B H w g b { v := .sl b 0 0 l.toNat, wr := [(b, some ⟨0, 2, sz, zerosV l.toNat z⟩)] } z' w' g' := by
  obtain ⟨c1, c2, c3, c4, c5, c6⟩ := hcond
  obtain ⟨hu, i, hi, rfl, rfl⟩ := sl_und ht
  obtain ⟨i', zv, hi', hzv, hl, hc⟩ := zero_sound (w := w) (g := g) hz
  rw [hi] at hi'
  injection hi' with hi'
  subst hi'
  have hby : (i.bytes : Int) * c ≤ 281474976710656 := by
    have h1 : ((c.toNat * i.bytes : Nat) : Int) ≤ 140737488355328 := by omega
    rw [Int.natCast_mul, Int.toNat_of_nonneg (by omega), Int.mul_comm] at h1
    omega
  have hrun := run_make (P := P) w t e i zv hu hi hzv kl kc l c c3 c4 hby c6
  obtain ⟨h1, h2⟩ := heap_push (w := w) (o := .cells (madeCells zv.cells (c.toNat * i.size)) e)
  have hle : l.toNat * z.length ≤ c.toNat * i.size := by rw [c1]; exact Nat.mul_le_mul_right _ (by omega)
  by_cases hc0 : c.toNat = 0
  · have hl0 : l.toNat = 0 := by omega
    have hz0 : zerosV l.toNat z = [] := List.eq_nil_of_length_eq_zero (by rw [zerosV_len, hl0, Nat.zero_mul])
    obtain ⟨g', o⟩ := Out.empty m hb (m.push (w' := w.alloc (.cells (madeCells zv.cells (c.toNat * i.size)) e)) rfl rfl rfl rfl) 2 i.size [] (some ⟨w.heap.size, 0, none⟩)
    rw [hl0, hc0] at hrun
    rw [hz0, hl0]
    rw [hc0] at o
    exact ⟨_, _, g', hrun, o⟩
  have hzs := zeros_sound (g := g) (H := H) (w := w) (t := t) hl (by omega) hle hc
  have hmax : c.toNat ≤ maxLen := by rw [show maxLen = 9223372036854775807 from rfl]; omega
  obtain ⟨g', o⟩ := Out.made (gone := []) (rd := []) (lv := 2) (sz := i.size) (w' := w.alloc (.cells (madeCells zv.cells (c.toNat * i.size)) e)) m hb (v := .sl b 0 0 l.toNat)
    (z := .slice (some ⟨w.heap.size, 0, none⟩) l.toNat c.toNat) (cells := zerosV l.toNat z) (fun _ => []) rfl rfl rfl (by show (w.heap.push _).size = _; simp) h1 h2
    (fun k _ h => by simp at h) (by rw [size_madeCells, zerosV_len]; exact hle) (fun k hk => (hzs k hk).1) (fun k hk => (hzs k hk).2) (by rw [fm_nil]; exact List.nodup_nil) (fun c h => by rw [fm_nil] at h; cases h)
    (fun S' J' H' hJ hH => .sl0 hJ hH rfl (by omega) hmax (by omega) (by
      have h3 : (w.alloc (.cells (madeCells zv.cells (c.toNat * i.size)) e)).heap[w.heap.size]? = some (.cells (madeCells zv.cells (c.toNat * i.size)) e) := h2
      simp only [bsz, h3, size_madeCells]; exact Nat.le_refl _))
  exact ⟨_, _, g', hrun, o⟩
end

end Go.Proofs.Ytacfkfdnncgjcaa.Ev
end

section
set_option linter.unusedVariables false
set_option linter.unusedSimpArgs false
namespace Go.Proofs.Ytacfkfdnncgjcaa.Ev
open Go

section
variable {B : Beg} {H : Nat → Option Ob} {w : World} {g : Gh} {P : Program} {b : Nat}

theorem VR.adoptC {S : Nat → Prop} {J : Nat → Option (Option Nat)} {v : V} {y : Value} (h : VR w S J H v y) (x : Nat) : adoptC x v = (v, []) := by
  cases h with
  | pure h => cases h <;> rfl
  | _ => rfl
theorem CR.flat {S : Nat → Prop} {J : Nat → Option (Option Nat)} {v : V} {y : Value} {fp : List Nat} (h : CR w S J H v y fp) (hu : hasU v = false) (h1 : y.oneCell' = true) : fp = [] := by
  rcases h with ⟨_, e⟩ | h
  · exact e
  · cases h <;> first | rfl | (cases h1; done) | (cases hu; done)
theorem CR.cell {S : Nat → Prop} {J : Nat → Option (Option Nat)} {v : V} {y : Value} {fp : List Nat} (h : CR w S J H v y fp) (h1 : y.oneCell' = true) : (∀ cs, v ≠ .agg cs) ∧ ∀ cs, v ≠ .tup cs := by
  constructor <;> intro cs e <;> subst e
  · rcases h with ⟨h, _⟩ | h
    · obtain ⟨arr, rfl, _⟩ := h.agg_inv; cases h1
    · cases h with
      | pr h => cases h; cases h1
      | agg => cases h1
  · rcases h with ⟨h, _⟩ | h
    · obtain ⟨arr, rfl, _⟩ := h.tup_inv; cases h1
    · cases h with
      | pr h => cases h; cases h1
      | tup => cases h1

/-- A value that owns what it leads to is taken in. -/
theorem adoptC_sound (m : MR B H w g) {x : Nat} (hx : g.J x = none) {v : V} {y : Value} {fp : List Nat} (h : CR w g.S g.J H v y fp) (hv : (∀ cs, v ≠ .agg cs) ∧ ∀ cs, v ≠ .tup cs) (hn : fp.Nodup)
    (hnew : ∀ b, b ∈ fp → b ∈ B.fp ∨ B.w.heap.size ≤ b) (hd : ∀ id ob, H id = some ob → ∀ b, b ∈ fp → b ∉ g.F id) (hS : ∀ b, b ∈ fp → ¬ g.S b) :
    ∃ g', g'.S = g.S ∧ MR B (appW H (adoptC x v).2) w g' ∧ Pers w g.S g.J H w g'.S g'.J (appW H (adoptC x v).2) ∧ VR w g'.S g'.J (appW H (adoptC x v).2) (adoptC x v).1 y ∧
      (∀ id, id ≠ x → g'.J id = g.J id ∧ g'.F id = g.F id ∧ appW H (adoptC x v).2 id = H id) ∧ (∀ ob, appW H (adoptC x v).2 x = some ob → ∀ b, b ∈ g'.F x → b ∈ fp) := by
  have hHx : H x = none := by
    cases e : H x with
    | none => rfl
    | some ob => exact absurd hx (m.hj x ob e)
  have keep : adoptC x v = (v, []) → VR w g.S g.J H v y → ∃ g', g'.S = g.S ∧ MR B (appW H (adoptC x v).2) w g' ∧ Pers w g.S g.J H w g'.S g'.J (appW H (adoptC x v).2) ∧ VR w g'.S g'.J (appW H (adoptC x v).2) (adoptC x v).1 y ∧
      (∀ id, id ≠ x → g'.J id = g.J id ∧ g'.F id = g.F id ∧ appW H (adoptC x v).2 id = H id) ∧ (∀ ob, appW H (adoptC x v).2 x = some ob → ∀ b, b ∈ g'.F x → b ∈ fp) := fun e hv => by
    rw [e]
    exact ⟨g, rfl, m, .refl .., hv, fun _ _ => ⟨rfl, rfl, rfl⟩, fun ob h => by simp only [appW] at h; rw [hHx] at h; cases h⟩
  rcases h with ⟨h, _⟩ | h
  · exact keep (h.adoptC x) h
  · cases h with
    | pr h => exact keep ((VR.pure (J := g.J) (H := H) h).adoptC x) (.pure h)
    | unil sz A =>
      obtain ⟨r1, r2⟩ := m.put0 (x := x) (gone := []) (ob' := ⟨0, 2, sz, []⟩) (jo' := none) (F' := []) (w' := w) rfl rfl rfl (Nat.le_refl _) (fun _ _ => rfl) (fun _ _ => .inl rfl) (fun h => absurd hx h) (fun _ => ⟨rfl, rfl⟩) List.nodup_nil
        (fun _ b h => by cases h) (fun _ _ b h => by cases h) (fun b h => by cases h) (fun _ _ _ _ _ b h => by cases h)
      exact ⟨⟨upd g.J x (some none), g.S, upd g.F x []⟩, rfl, r1, r2, .sl (by show upd g.J x (some none) x ≠ none; rw [upd_same]; simp) (Nat.le_refl _) (by simp [maxLen]) (.inl rfl) fun ob h => ⟨Nat.zero_le _, fun _ => .inl ⟨rfl, rfl, fun _ => upd_same ..⟩⟩,
        fun id hid => ⟨upd_ne _ _ _ _ hid, upd_ne _ _ _ _ hid, by rw [show (adoptC x (.uniq sz 0 [])).2 = ([].map fun i => (i, (none : Option Ob))) ++ [(x, some ⟨0, 2, sz, []⟩)] from rfl, appW_put, if_neg hid]; simp⟩,
        fun ob _ b hb => by simp only [upd_same] at hb; exact hb⟩
    | @uniq sz n c bb cs arr e fr fps hb hz hl hc hn' hm hc1 h h1 =>
      have hbs : bsz w bb = arr.size := by simp only [bsz, hb]
      obtain ⟨r1, r2⟩ := m.put0 (x := x) (gone := []) (ob' := ⟨0, 2, sz, cs⟩) (jo' := some bb) (F' := bb :: (List.range cs.length).flatMap fps) (w' := w) rfl rfl rfl (Nat.le_refl _) (fun _ _ => rfl) (fun _ _ => .inl rfl) (fun h => absurd hx h)
        (fun p => ⟨arr, e, fr, fps, hb, hz, by rw [hl]; exact Nat.le_trans (Nat.mul_le_mul_right _ hn') hc, fun k hk => .inr ((h k hk).mono p.hS p.hw fun _ _ => rfl), h1, rfl⟩) hn
        (fun _ b hb => by injection hb with hb; subst hb; exact hS _ (List.mem_cons_self ..)) (fun _ _ b hb => hS b hb) hnew (fun id ob hne _ h b hb => hd id ob h b hb)
      exact ⟨⟨upd g.J x (some (some bb)), g.S, upd g.F x (bb :: (List.range cs.length).flatMap fps)⟩, rfl, r1, r2, .sl0 (c := bb) (upd_same ..) (ob := ⟨0, 2, sz, cs⟩) (by rw [show (adoptC x (.uniq sz n cs)).2 = ([].map fun i => (i, (none : Option Ob))) ++ [(x, some ⟨0, 2, sz, cs⟩)] from rfl, appW_put, if_pos rfl]) rfl hn' hm hc1 (by rw [hbs]; exact hc),
        fun id hid => ⟨upd_ne _ _ _ _ hid, upd_ne _ _ _ _ hid, by rw [show (adoptC x (.uniq sz n cs)).2 = ([].map fun i => (i, (none : Option Ob))) ++ [(x, some ⟨0, 2, sz, cs⟩)] from rfl, appW_put, if_neg hid]; simp⟩,
        fun ob _ b hb => by simp only [upd_same] at hb; exact hb⟩
    | @uptr bb cs arr e fr fps hb hz hl h h1 =>
      obtain ⟨r1, r2⟩ := m.put0 (x := x) (gone := []) (ob' := ⟨0, 1, 1, cs⟩) (jo' := some bb) (F' := bb :: (List.range cs.length).flatMap fps) (w' := w) rfl rfl rfl (Nat.le_refl _) (fun _ _ => rfl) (fun _ _ => .inl rfl) (fun h => absurd hx h)
        (fun p => ⟨arr, e, fr, fps, hb, hz, hl, fun k hk => .inr ((h k hk).mono p.hS p.hw fun _ _ => rfl), h1, rfl⟩) hn
        (fun _ b hb => by injection hb with hb; subst hb; exact hS _ (List.mem_cons_self ..)) (fun _ _ b hb => hS b hb) hnew (fun id ob hne _ h b hb => hd id ob h b hb)
      exact ⟨⟨upd g.J x (some (some bb)), g.S, upd g.F x (bb :: (List.range cs.length).flatMap fps)⟩, rfl, r1, r2, .ptr0 (c := bb) (upd_same ..),
        fun id hid => ⟨upd_ne _ _ _ _ hid, upd_ne _ _ _ _ hid, by rw [show (adoptC x (.uptr cs)).2 = ([].map fun i => (i, (none : Option Ob))) ++ [(x, some ⟨0, 1, 1, cs⟩)] from rfl, appW_put, if_neg hid]; simp⟩,
        fun ob _ b hb => by simp only [upd_same] at hb; exact hb⟩
    | agg fp hl h => exact absurd rfl (hv.1 _)
    | tup fp hl h => exact absurd rfl (hv.2 _)

/-- What has been taken in: what was told of it, in one word. -/
structure Took (B : Beg) (w : World) (H : Nat → Option Ob) (g : Gh) (x n : Nat) (wr : List (Nat × Option Ob)) (F : List Nat) (g' : Gh) : Prop where
  s : g'.S = g.S
  m : MR B (appW H wr) w g'
  p : Pers w g.S g.J H w g'.S g'.J (appW H wr)
  out : ∀ id, ¬ (x ≤ id ∧ id < x + n) → g'.J id = g.J id ∧ g'.F id = g.F id ∧ appW H wr id = H id
  into : ∀ id ob, x ≤ id → id < x + n → appW H wr id = some ob → ∀ b, b ∈ g'.F id → b ∈ F

theorem Took.trans {x n1 n2 x' n : Nat} {w1 w2 : List (Nat × Option Ob)} {F1 F2 F : List Nat} {g1 g2 : Gh} (t1 : Took B w H g x n1 w1 F1 g1) (t2 : Took B w (appW H w1) g1 x' n2 w2 F2 g2) (hx : x ≤ x') (h1 : n1 ≤ n) (h2 : x' + n2 ≤ x + n) (h3 : x + n1 ≤ x')
    (f1 : ∀ b, b ∈ F1 → b ∈ F) (f2 : ∀ b, b ∈ F2 → b ∈ F) (hH : ∀ id, x ≤ id → id < x + n → H id = none) : Took B w H g x n (w1 ++ w2) F g2 where
  s := t2.s.trans t1.s
  m := by rw [appW_append]; exact t2.m
  p := by rw [appW_append]; exact t1.p.trans t2.p
  out := fun id h => by
    obtain ⟨a1, a2, a3⟩ := t1.out id (by omega)
    obtain ⟨c1, c2, c3⟩ := t2.out id (by omega)
    rw [appW_append]
    exact ⟨c1.trans a1, c2.trans a2, c3.trans a3⟩
  into := fun id ob l1 l2 h b hb => by
    rw [appW_append] at h
    by_cases e : x' ≤ id ∧ id < x' + n2
    · exact f2 b (t2.into id ob e.1 e.2 h b hb)
    · obtain ⟨c1, c2, c3⟩ := t2.out id e
      rw [c3] at h
      rw [c2] at hb
      by_cases e1 : x ≤ id ∧ id < x + n1
      · exact f1 b (t1.into id ob e1.1 e1.2 h b hb)
      · obtain ⟨a1, a2, a3⟩ := t1.out id e1
        rw [a3, hH id l1 l2] at h
        cases h

theorem MR.noH (m : MR B H w g) {id : Nat} (h : g.J id = none) : H id = none := by
  cases e : H id with
  | none => rfl
  | some ob => exact absurd h (m.hj id ob e)

theorem adoptL_sound : ∀ (cs : List V) (x : Nat) {H : Nat → Option Ob} {g : Gh} (m : MR B H w g) (ys : Nat → Value) (fp : Nat → List Nat), (∀ id, x ≤ id → id < x + cs.length → g.J id = none) →
    (∀ k (hk : k < cs.length), CR w g.S g.J H cs[k] (ys k) (fp k)) → (∀ k, k < cs.length → (ys k).oneCell' = true) → (∀ k, k < cs.length → (fp k).Nodup) → (∀ i j, i < j → j < cs.length → ∀ b, b ∈ fp i → b ∉ fp j) →
    (∀ k, k < cs.length → ∀ b, b ∈ fp k → (b ∈ B.fp ∨ B.w.heap.size ≤ b) ∧ (∀ id ob, H id = some ob → b ∉ g.F id) ∧ ¬ g.S b) →
    ∃ g', Took B w H g x cs.length (adoptL x cs).2 ((List.range cs.length).flatMap fp) g' ∧ (adoptL x cs).1.length = cs.length ∧ ∀ k (hk : k < (adoptL x cs).1.length), VR w g'.S g'.J (appW H (adoptL x cs).2) (adoptL x cs).1[k] (ys k)
  | [], x, H, g, m, ys, fp, _, _, _, _, _, _ => ⟨g, ⟨rfl, m, .refl .., fun id h => ⟨rfl, rfl, rfl⟩, fun id ob h1 h2 => by simp at h2; omega⟩, rfl, fun k hk => by simp [adoptL] at hk⟩
  | c :: cs, x, H, g, m, ys, fp, hx, hc, h1, hn1, hn2, hf => by
    have hlen : (c :: cs).length = cs.length + 1 := rfl
    have hx0 : g.J x = none := hx x (Nat.le_refl _) (by rw [hlen]; omega)
    have hc0 : CR w g.S g.J H c (ys 0) (fp 0) := hc 0 (by rw [hlen]; omega)
    obtain ⟨g1, s1, m1, p1, v1, o1, i1⟩ := adoptC_sound m hx0 hc0 (hc0.cell (h1 0 (by rw [hlen]; omega))) (hn1 0 (by rw [hlen]; omega)) (fun b hb => (hf 0 (by rw [hlen]; omega) b hb).1) (fun id ob h b hb => (hf 0 (by rw [hlen]; omega) b hb).2.1 id ob h) (fun b hb => (hf 0 (by rw [hlen]; omega) b hb).2.2)
    have t1 : Took B w H g x 1 (adoptC x c).2 (fp 0) g1 := ⟨s1, m1, p1, fun id h => o1 id (by omega), fun id ob l1 l2 h b hb => by
      have : id = x := by omega
      subst this; exact i1 ob h b hb⟩
    obtain ⟨g2, t2, l2, v2⟩ := adoptL_sound cs (x + 1) m1 (fun k => ys (k + 1)) (fun k => fp (k + 1))
      (fun id l1 l2 => by rw [(o1 id (by omega)).1]; exact hx id (by omega) (by rw [hlen]; omega))
      (fun k hk => by
        have := hc (k + 1) (by rw [hlen]; omega)
        exact this.mono p1 fun _ _ => rfl)
      (fun k hk => h1 (k + 1) (by rw [hlen]; omega)) (fun k hk => hn1 (k + 1) (by rw [hlen]; omega)) (fun i j hij hj => hn2 (i + 1) (j + 1) (by omega) (by rw [hlen]; omega))
      (fun k hk b hb => by
        obtain ⟨q1, q2, q3⟩ := hf (k + 1) (by rw [hlen]; omega) b hb
        refine ⟨q1, fun id ob h hb' => ?_, by rw [s1]; exact q3⟩
        by_cases e : id = x
        · subst e
          exact hn2 0 (k + 1) (by omega) (by rw [hlen]; omega) b (i1 ob h b hb') hb
        · rw [(o1 id e).2.2] at h
          rw [(o1 id e).2.1] at hb'
          exact q2 id ob h hb')
    refine ⟨g2, ?_, ?_, ?_⟩
    · have := t1.trans (n := (c :: cs).length) (F := (List.range (c :: cs).length).flatMap fp) t2 (by omega) (by rw [hlen]; omega) (by rw [hlen]; omega) (by omega) (fun b hb => mem_fm.2 ⟨0, by rw [hlen]; omega, hb⟩)
        (fun b hb => by obtain ⟨k, hk, hb⟩ := mem_fm.1 hb; exact mem_fm.2 ⟨k + 1, by rw [hlen]; omega, hb⟩) (fun id l1 l2 => m.noH (hx id l1 l2))
      exact this
    · show (_ :: (adoptL (x + 1) cs).1).length = _
      simp [l2]
    · intro k hk
      rw [show (adoptL x (c :: cs)).2 = (adoptC x c).2 ++ (adoptL (x + 1) cs).2 from rfl, appW_append]
      cases k with
      | zero => exact v1.mono t2.p
      | succ k => exact v2 k (by have : k + 1 < (_ :: (adoptL (x + 1) cs).1).length := hk; simpa using this)

theorem TR.agg_inv {S : Nat → Prop} {cs : List V} {y : Value} {fp : List Nat} (h : TR w S (.agg cs) y fp) : ∃ (arr : Array Value) (fps : Nat → List Nat), y = .agg arr ∧ cs.length = arr.size ∧ (∀ k (hk : k < cs.length), TR w S cs[k] (arr.getD k Go.undef) (fps k)) ∧
    (∀ k, k < cs.length → (arr.getD k Go.undef).oneCell' = true) ∧ fp = (List.range cs.length).flatMap fps := by
  cases h with
  | pr h => cases h with | agg hl h h1 => exact ⟨_, fun _ => [], rfl, hl, fun k hk => .pr (h k hk), h1, (fm_nil _).symm⟩
  | agg fps hl h h1 => exact ⟨_, fps, rfl, hl, h, h1, rfl⟩
theorem TR.tup_inv {S : Nat → Prop} {cs : List V} {y : Value} {fp : List Nat} (h : TR w S (.tup cs) y fp) : ∃ (arr : Array Value) (fps : Nat → List Nat), y = .tuple arr ∧ cs.length = arr.size ∧ (∀ k (hk : k < cs.length), TR w S cs[k] (arr.getD k Go.undef) (fps k)) ∧
    fp = (List.range cs.length).flatMap fps := by
  cases h with
  | pr h => cases h with | tup hl h => exact ⟨_, fun _ => [], rfl, hl, fun k hk => .pr (h k hk), (fm_nil _).symm⟩
  | tup fps hl h => exact ⟨_, fps, rfl, hl, h, rfl⟩

theorem adoptA_sound (m : MR B H w g) {x : Nat} (hx : ∀ id, x ≤ id → id < x + 8 → g.J id = none) {v : V} {y : Value} {fp : List Nat} (hw : wideA v = true) (hv : ∀ cs, v ≠ .tup cs) (h : TR w g.S v y fp) (hn : fp.Nodup)
    (hf : ∀ b, b ∈ fp → (b ∈ B.fp ∨ B.w.heap.size ≤ b) ∧ (∀ id ob, H id = some ob → b ∉ g.F id) ∧ ¬ g.S b) :
    ∃ g', Took B w H g x 8 (adoptA x v).2 fp g' ∧ VR w g'.S g'.J (appW H (adoptA x v).2) (adoptA x v).1 y := by
  by_cases e : ∃ cs, v = .agg cs
  · obtain ⟨cs, rfl⟩ := e
    obtain ⟨arr, fps, rfl, hl, hc, h1, rfl⟩ := h.agg_inv
    obtain ⟨n1, n2⟩ := nodup_fm.1 hn
    have hw' : cs.length ≤ 8 := by simpa [wideA] using hw
    obtain ⟨g', t, l, vv⟩ := adoptL_sound cs x m (fun k => arr.getD k Go.undef) fps (fun id l1 l2 => hx id l1 (by omega)) (fun k hk => .inr (hc k hk)) h1 n1 n2 (fun k hk b hb => hf b (mem_fm.2 ⟨k, hk, hb⟩))
    refine ⟨g', ⟨t.s, t.m, t.p, fun id hid => t.out id (by omega), fun id ob l1 l2 h b hb => ?_⟩, .agg (by show (adoptL x cs).1.length = _; omega) (fun k hk => vv k hk) fun k hk => h1 k (by
      have : k < (adoptL x cs).1.length := hk
      omega)⟩
    by_cases e : id < x + cs.length
    · exact t.into id ob l1 e h b hb
    · have h' : appW H (adoptL x cs).2 id = some ob := h
      rw [(t.out id (by omega)).2.2, m.noH (hx id l1 l2)] at h'
      cases h'
  · have hv1 : ∀ cs, v ≠ .agg cs := fun cs h => e ⟨cs, h⟩
    have ea : adoptA x v = adoptC x v := by
      unfold adoptA
      split
      · exact absurd rfl (hv1 _)
      · rfl
    rw [ea]
    obtain ⟨g1, s1, m1, p1, v1, o1, i1⟩ := adoptC_sound m (hx x (Nat.le_refl _) (by omega)) (.inr h) ⟨hv1, hv⟩ hn (fun b hb => (hf b hb).1) (fun id ob h b hb => (hf b hb).2.1 id ob h) (fun b hb => (hf b hb).2.2)
    refine ⟨g1, ⟨s1, m1, p1, fun id h => o1 id (by omega), fun id ob l1 l2 h b hb => ?_⟩, v1⟩
    by_cases e : id = x
    · subst e; exact i1 ob h b hb
    · rw [(o1 id e).2.2, m.noH (hx id l1 l2)] at h
      cases h

theorem adoptT_sound : ∀ (cs : List V) (x : Nat) {H : Nat → Option Ob} {g : Gh} (m : MR B H w g) (ys : Nat → Value) (fp : Nat → List Nat), (∀ id, x ≤ id → id < x + 8 * cs.length → g.J id = none) →
    cs.all wideA = true → (∀ k (hk : k < cs.length), TR w g.S cs[k] (ys k) (fp k)) → (∀ k (hk : k < cs.length) us, cs[k] ≠ .tup us) → (∀ k, k < cs.length → (fp k).Nodup) → (∀ i j, i < j → j < cs.length → ∀ b, b ∈ fp i → b ∉ fp j) →
    (∀ k, k < cs.length → ∀ b, b ∈ fp k → (b ∈ B.fp ∨ B.w.heap.size ≤ b) ∧ (∀ id ob, H id = some ob → b ∉ g.F id) ∧ ¬ g.S b) →
    ∃ g', Took B w H g x (8 * cs.length) (adoptT x cs).2 ((List.range cs.length).flatMap fp) g' ∧ (adoptT x cs).1.length = cs.length ∧ ∀ k (hk : k < (adoptT x cs).1.length), VR w g'.S g'.J (appW H (adoptT x cs).2) (adoptT x cs).1[k] (ys k)
  | [], x, H, g, m, ys, fp, _, _, _, _, _, _, _ => ⟨g, ⟨rfl, m, .refl .., fun id h => ⟨rfl, rfl, rfl⟩, fun id ob h1 h2 => by simp at h2; omega⟩, rfl, fun k hk => by simp [adoptT] at hk⟩
  | c :: cs, x, H, g, m, ys, fp, hx, hw, hc, ht, hn1, hn2, hf => by
    have hlen : (c :: cs).length = cs.length + 1 := rfl
    simp only [List.all_cons, Bool.and_eq_true] at hw
    have hc0 : TR w g.S c (ys 0) (fp 0) := hc 0 (by rw [hlen]; omega)
    obtain ⟨g1, t1, v1⟩ := adoptA_sound m (fun id l1 l2 => hx id l1 (by rw [hlen]; omega)) hw.1 (ht 0 (by rw [hlen]; omega)) hc0 (hn1 0 (by rw [hlen]; omega)) (fun b hb => hf 0 (by rw [hlen]; omega) b hb)
    obtain ⟨g2, t2, l2, v2⟩ := adoptT_sound cs (x + 8) t1.m (fun k => ys (k + 1)) (fun k => fp (k + 1))
      (fun id l1 l2 => by rw [(t1.out id (by omega)).1]; exact hx id (by omega) (by rw [hlen]; omega)) hw.2
      (fun k hk => by
        have := hc (k + 1) (by rw [hlen]; omega)
        rw [t1.s]; exact this)
      (fun k hk => ht (k + 1) (by rw [hlen]; omega)) (fun k hk => hn1 (k + 1) (by rw [hlen]; omega)) (fun i j hij hj => hn2 (i + 1) (j + 1) (by omega) (by rw [hlen]; omega))
      (fun k hk b hb => by
        obtain ⟨q1, q2, q3⟩ := hf (k + 1) (by rw [hlen]; omega) b hb
        refine ⟨q1, fun id ob h hb' => ?_, by rw [t1.s]; exact q3⟩
        by_cases e : x ≤ id ∧ id < x + 8
        · exact hn2 0 (k + 1) (by omega) (by rw [hlen]; omega) b (t1.into id ob e.1 e.2 h b hb') hb
        · obtain ⟨o1, o2, o3⟩ := t1.out id e
          rw [o3] at h
          rw [o2] at hb'
          exact q2 id ob h hb')
    refine ⟨g2, ?_, ?_, ?_⟩
    · have := t1.trans (n := 8 * (c :: cs).length) (F := (List.range (c :: cs).length).flatMap fp) t2 (by omega) (by rw [hlen]; omega) (by rw [hlen]; omega) (by omega) (fun b hb => mem_fm.2 ⟨0, by rw [hlen]; omega, hb⟩)
        (fun b hb => by obtain ⟨k, hk, hb⟩ := mem_fm.1 hb; exact mem_fm.2 ⟨k + 1, by rw [hlen]; omega, hb⟩) (fun id l1 l2 => m.noH (hx id l1 l2))
      exact this
    · show (_ :: (adoptT (x + 8) cs).1).length = _
      simp [l2]
    · intro k hk
      rw [show (adoptT x (c :: cs)).2 = (adoptA x c).2 ++ (adoptT (x + 8) cs).2 from rfl, appW_append]
      cases k with
      | zero => exact v1.mono t2.p
      | succ k => exact v2 k (by have : k + 1 < (_ :: (adoptT (x + 8) cs).1).length := hk; simpa using this)

/-- A result, taken in. -/
theorem adopt_sound (m : MR B H w g) {x : Nat} (hx : ∀ id, x ≤ id → id < x + 64 → g.J id = none) {v : V} {y : Value} {fp : List Nat} (hw : widthOk v = true) (ht : ∀ vs, v = .tup vs → ∀ k (hk : k < vs.length) us, vs[k] ≠ .tup us) (h : TR w g.S v y fp) (hn : fp.Nodup)
    (hf : ∀ b, b ∈ fp → (b ∈ B.fp ∨ B.w.heap.size ≤ b) ∧ (∀ id ob, H id = some ob → b ∉ g.F id) ∧ ¬ g.S b) :
    ∃ g', Took B w H g x 64 (adopt x v).2 fp g' ∧ VR w g'.S g'.J (appW H (adopt x v).2) (adopt x v).1 y := by
  by_cases e : ∃ cs, v = .tup cs
  · obtain ⟨cs, rfl⟩ := e
    obtain ⟨arr, fps, rfl, hl, hc, rfl⟩ := h.tup_inv
    obtain ⟨n1, n2⟩ := nodup_fm.1 hn
    simp only [widthOk, Bool.and_eq_true, decide_eq_true_eq] at hw
    obtain ⟨g', t, l, vv⟩ := adoptT_sound cs x m (fun k => arr.getD k Go.undef) fps (fun id l1 l2 => hx id l1 (by omega)) hw.2 hc (ht cs rfl) n1 n2 (fun k hk b hb => hf b (mem_fm.2 ⟨k, hk, hb⟩))
    refine ⟨g', ⟨t.s, t.m, t.p, fun id hid => t.out id (by omega), fun id ob l1 l2 h b hb => ?_⟩, .tup (by show (adoptT x cs).1.length = _; omega) fun k hk => vv k hk⟩
    by_cases e : id < x + 8 * cs.length
    · exact t.into id ob l1 e h b hb
    · have h' : appW H (adoptT x cs).2 id = some ob := h
      rw [(t.out id (by omega)).2.2, m.noH (hx id l1 l2)] at h'
      cases h'
  · have hv1 : ∀ cs, v ≠ .tup cs := fun cs h => e ⟨cs, h⟩
    have ea : adopt x v = adoptA x v := by
      unfold adopt
      split
      · exact absurd rfl (hv1 _)
      · rfl
    have wa : wideA v = true := by
      unfold widthOk at hw
      split at hw
      · exact absurd rfl (hv1 _)
      · exact hw
    rw [ea]
    obtain ⟨g1, t1, v1⟩ := adoptA_sound m (fun id l1 l2 => hx id l1 (by omega)) wa hv1 h hn hf
    refine ⟨g1, ⟨t1.s, t1.m, t1.p, fun id h => t1.out id (by omega), fun id ob l1 l2 h b hb => ?_⟩, v1⟩
    by_cases e : id < x + 8
    · exact t1.into id ob l1 e h b hb
    · rw [(t1.out id (by omega)).2.2, m.noH (hx id l1 l2)] at h
      cases h
end

end Go.Proofs.Ytacfkfdnncgjcaa.Ev
end

section
set_option linter.unusedVariables false
set_option linter.unusedSimpArgs false
namespace Go.Proofs.Ytacfkfdnncgjcaa.Ev
open Go

section
variable {B : Beg} {H : Nat → Option Ob} {w : World} {g : Gh} {P : Program} {b : Nat}

theorem VR.viewN {S : Nat → Prop} {J : Nat → Option (Option Nat)} {v u : V} {y : Value} {k : Nat} (h : VR w S J H v y) (e : viewN k v = some u) : u = v := by
  cases h with
  | pure h => cases h <;> cases k <;> simp [Ev.viewN] at e <;> exact e.symm
  | _ => cases k <;> simp [Ev.viewN] at e <;> exact e.symm

/-- A cell, as it is seen. -/
theorem CR.view {S S' : Nat → Prop} {J : Nat → Option (Option Nat)} {v u : V} {y : Value} {fp : List Nat} {k : Nat} (h : CR w S J H v y fp) (p : Pers w S J H w S' J H) (hfp : ∀ b, b ∈ fp → S' b) (e : Ev.viewN k v = some u) : VR w S' J H u y := by
  rcases h with ⟨h, _⟩ | h
  · have := h.viewN e
    subst this
    exact h.mono p
  · exact .pure (h.view p.hS hfp e)

theorem ld_und {t : TypeId} {ag : Bool} {n : Nat} (h : ldT P t = some (ag, n)) : aggT P t = some ag ∧ szT P t = some n := by
  unfold ldT at h
  cases ha : aggT P t with
  | none => simp [ha] at h
  | some a =>
    cases hz : szT P t with
    | none => simp [ha, hz] at h
    | some z =>
      simp [ha, hz] at h
      exact ⟨congrArg some h.1, congrArg some h.2⟩

theorem gen_getD {n k : Nat} {f : Nat → Value} (hk : k < n) : (((List.range n).map f).toArray).getD k Go.undef = f k := by
  simp [Array.getD, hk]

theorem run_loadAt_agg {t : TypeId} {n : Nat} {a : Addr} (f : Nat → Value) (ha : aggT P t = some true) (hz : szT P t = some n) (h : ∀ j, j < n → w.cell? (a.add j) = some (f j)) :
    (Instr.loadAt t (.pointer (some a))).run P w = .ok (.agg ((List.range n).map f).toArray) w := by
  simp [Instr.loadAt, Instr.sureAddr, loadVar, run_isAgg' ha, run_sizeOf' hz, run_loadCells w a n f h]
theorem run_loadAt_one {t : TypeId} {a : Addr} {v : Value} (ha : aggT P t = some false) (h : w.cell? a = some v) : (Instr.loadAt t (.pointer (some a))).run P w = .ok v w := by
  simp [Instr.loadAt, Instr.sureAddr, loadVar, run_isAgg' ha, h]

theorem setCs_len {cs vs : List V} {off : Nat} (h : off + vs.length ≤ cs.length) : (setCs cs off vs).length = cs.length := by
  simp [setCs]; omega
theorem setCs_in {cs vs : List V} {off k : Nat} (h : off + vs.length ≤ cs.length) (hk : k < (setCs cs off vs).length) (h1 : off ≤ k) (h2 : k - off < vs.length) : (setCs cs off vs)[k] = vs[k - off] := by
  have : (setCs cs off vs)[k]? = some vs[k - off] := by
    unfold setCs
    rw [List.append_assoc, List.getElem?_append_right (by simp; omega)]
    rw [List.getElem?_append_left (by simp; omega)]
    simp only [List.length_take, show min off cs.length = off by omega]
    exact List.getElem?_eq_getElem h2
  rw [List.getElem?_eq_getElem hk] at this
  injection this
theorem setCs_out {cs vs : List V} {off k : Nat} (h : off + vs.length ≤ cs.length) (hk : k < (setCs cs off vs).length) (h1 : ¬ (off ≤ k ∧ k < off + vs.length)) : ∃ h' : k < cs.length, (setCs cs off vs)[k] = cs[k] := by
  have hkl : k < cs.length := by rw [setCs_len h] at hk; exact hk
  refine ⟨hkl, ?_⟩
  have : (setCs cs off vs)[k]? = some cs[k] := by
    unfold setCs
    rw [List.append_assoc]
    by_cases e : k < off
    · rw [List.getElem?_append_left (by simp; omega), List.getElem?_take_of_lt e, List.getElem?_eq_getElem hkl]
    · rw [List.getElem?_append_right (by simp; omega), List.getElem?_append_right (by simp; omega), List.getElem?_drop]
      simp only [List.length_take, show min off cs.length = off by omega]
      rw [show off + vs.length + (k - off - vs.length) = k by omega]
      exact List.getElem?_eq_getElem hkl
  rw [List.getElem?_eq_getElem hk] at this
  injection this

/-- Cells of an object of the frame's own are seen. -/
theorem see_cells (m : MR B H w g) {id blk : Nat} {ob : Ob} (hH : H id = some ob) {arr : Array Value} {fp : Nat → List Nat} (hJ : g.J id = some (some blk)) (hc : ∀ k (hk : k < ob.cells.length), CR w g.S g.J H ob.cells[k] (arr.getD k Go.undef) (fp k))
    (h1 : ∀ k, k < ob.cells.length → (arr.getD k Go.undef).oneCell' = true) (hF : g.F id = blk :: (List.range ob.cells.length).flatMap fp) {off n : Nat} (hfit : off + n ≤ ob.cells.length) (hs : B.strict = true → ((ob.cells.drop off).take n).any hasU = false) :
    ∃ S', MR B H w ⟨g.J, S', g.F⟩ ∧ Pers w g.S g.J H w S' g.J H ∧ ∀ k, off ≤ k → k < off + n → ∀ b, b ∈ fp k → S' b := by
  have hnF := m.nd id ob hH
  rw [hF] at hnF
  obtain ⟨hbn, hnF⟩ := List.nodup_cons.1 hnF
  obtain ⟨r1, r2⟩ := m.see hH (fun b => ∃ k, off ≤ k ∧ k < off + n ∧ b ∈ fp k) (fun b ⟨k, k1, k2, hb⟩ => ⟨by rw [hF]; exact List.mem_cons_of_mem _ (mem_fm.2 ⟨k, by omega, hb⟩), fun e => by
    rw [hJ] at e
    injection e with e
    injection e with e
    subst e
    exact hbn (mem_fm.2 ⟨k, by omega, hb⟩)⟩) (fun hst b ⟨k, k1, k2, hb⟩ => by
    have hu := hs hst
    rw [List.any_eq_false] at hu
    have hk : k < ob.cells.length := by omega
    have hmem : ob.cells[k] ∈ (ob.cells.drop off).take n := by
      have hx : k - off < ((ob.cells.drop off).take n).length := by simp; omega
      obtain ⟨q1, q2⟩ := take_drop_at hx
      have := List.getElem_mem hx
      rw [q2 q1] at this
      simpa [show off + (k - off) = k by omega] using this
    have := (hc k hk).flat (by simpa using hu _ hmem) (h1 k hk)
    rw [this] at hb
    cases hb)
  exact ⟨_, r1, r2, fun k k1 k2 b hb => .inr ⟨k, k1, k2, hb⟩⟩

theorem load_sound (m : MR B H w g) (hb : ∀ id, b ≤ id → id < b + 64 → g.J id = none) {t : TypeId} {a : V} {y : Value} {d : D} (h : loadD P B.strict H b t a = some d) (ha : VR w g.S g.J H a y) :
    ∃ z g', (Instr.loadAt t y).run P w = .ok z w ∧ Out B H w g b d z w g' := by
  unfold loadD at h
  split at h
  · cases h
  · rename_i ag n hld
    obtain ⟨hag, hsz⟩ := ld_und hld
    split at h
    · -- an object of the frame's own
      rename_i id ver off
      split at h
      · rename_i ob hob
        obtain ⟨hH, hver⟩ := getO_some hob
        obtain ⟨a0, rfl, hj, hp⟩ := ha.ptr_inv
        obtain ⟨blk, hJ, rfl⟩ := (hp ob hH).2 hver
        obtain ⟨arr, e, fr, fp, hblk, hz, hal, hcells, h1, hF⟩ := m.ob id ob _ hH hJ
        have hnF := m.nd id ob hH
        rw [hF] at hnF
        obtain ⟨hbn, hnF'⟩ := List.nodup_cons.1 hnF
        obtain ⟨n1, n2⟩ := nodup_fm.1 hnF'
        -- what a part is worth, once its cells are taken in
        have taking : B.strict = true → ∀ (l : Nat) (seg : List V), seg.length = l → (∀ k (hk : k < seg.length), ∃ h, seg[k] = ob.cells[off + k]'h) → off + l ≤ ob.cells.length → l ≤ 64 → ob.lv ≠ 0 →
            ∃ g', (∀ k (hk : k < (adoptL b seg).1.length), VR w g'.S g'.J (appW H ((adoptL b seg).2 ++ [(id, some { ob with cells := setCs ob.cells off (adoptL b seg).1 })])) (adoptL b seg).1[k] (arr.getD (off + k) Go.undef)) ∧
              (adoptL b seg).1.length = l ∧
              MR B (appW H ((adoptL b seg).2 ++ [(id, some { ob with cells := setCs ob.cells off (adoptL b seg).1 })])) w g' ∧
              Pers w g.S g.J H w g'.S g'.J (appW H ((adoptL b seg).2 ++ [(id, some { ob with cells := setCs ob.cells off (adoptL b seg).1 })])) ∧
              (∀ i, g'.J i ≠ none → g.J i ≠ none ∨ (b ≤ i ∧ i < b + 64)) := by
          intro hst l seg hseg hsegc hfit hl64 hlv
          have hlv' : 1 ≤ ob.lv := by omega
          -- the container without them
          let anys : List V := List.replicate l .any
          have hal' : anys.length = l := List.length_replicate
          let fpA : Nat → List Nat := fun k => if off ≤ k ∧ k < off + l then [] else fp k
          have hidb : ¬ (b ≤ id ∧ id < b + 64) := fun hx => hj (hb id hx.1 hx.2)
          have fpA_sub : ∀ k, k < ob.cells.length → ∀ c, c ∈ fpA k → c ∈ fp k := fun k _ c hc => by
            by_cases e : off ≤ k ∧ k < off + l
            · simp only [fpA, e, and_self, if_true] at hc; cases hc
            · simp only [fpA, e, if_false] at hc; exact hc
          obtain ⟨mA, pA⟩ := m.put0 (x := id) (gone := []) (ob' := { ob with cells := setCs ob.cells off anys }) (jo' := some blk) (F' := blk :: (List.range (setCs ob.cells off anys).length).flatMap fpA) (w' := w)
            rfl rfl rfl (Nat.le_refl _) (fun _ _ => rfl) (fun _ _ => .inl rfl) (fun _ => ⟨ob, hH, .inr ⟨rfl, rfl, hJ.symm⟩⟩)
            (fun p => by
              have hll := setCs_len (cs := ob.cells) (vs := anys) (off := off) (by omega)
              refine ⟨arr, e, fr, fpA, hblk, hz, by rw [hll]; exact hal, fun k hk => ?_, fun k hk => h1 k (by rw [hll] at hk; exact hk), rfl⟩
              by_cases ek : off ≤ k ∧ k < off + l
              · have e1 := setCs_in (cs := ob.cells) (vs := anys) (off := off) (by omega) hk ek.1 (by omega)
                show CR _ _ _ _ (setCs ob.cells off anys)[k] _ (fpA k)
                rw [e1]
                simp only [fpA, ek, and_self, if_true, anys, List.getElem_replicate]
                exact .inl ⟨.any _, rfl⟩
              · obtain ⟨q1, q2⟩ := setCs_out (cs := ob.cells) (vs := anys) (off := off) (by omega) hk (by omega)
                show CR _ _ _ _ (setCs ob.cells off anys)[k] _ (fpA k)
                rw [q2]
                simp only [fpA, ek, if_false]
                exact (hcells k q1).mono p fun _ _ => rfl)
            (by
              have hll := setCs_len (cs := ob.cells) (vs := anys) (off := off) (by omega)
              rw [hll]
              refine List.nodup_cons.2 ⟨fun h => ?_, nodup_fm.2 ⟨fun k hk => ?_, fun i j hij hjl c hc hc' => n2 i j hij hjl c (fpA_sub i (by omega) c hc) (fpA_sub j hjl c hc')⟩⟩
              · obtain ⟨k, hk, h⟩ := mem_fm.1 h
                exact hbn (mem_fm.2 ⟨k, hk, fpA_sub k hk _ h⟩)
              · by_cases e : off ≤ k ∧ k < off + l
                · simp only [fpA, e, and_self, if_true]; exact List.nodup_nil
                · simp only [fpA, e, if_false]; exact n1 k hk)
            (fun hl c hc => by injection hc with hc; subst hc; exact m.mu id ob _ hH hl hJ)
            (fun hst hl c hc => m.ms hst id ob hH hl c (by
              rw [hF]
              rcases List.mem_cons.1 hc with rfl | hc
              · exact List.mem_cons_self ..
              · obtain ⟨k, hk, hc⟩ := mem_fm.1 hc
                rw [setCs_len (by omega)] at hk
                exact List.mem_cons_of_mem _ (mem_fm.2 ⟨k, hk, fpA_sub k hk _ hc⟩)))
            (fun c hc => m.new id ob hH c (by
              rw [hF]
              rcases List.mem_cons.1 hc with rfl | hc
              · exact List.mem_cons_self ..
              · obtain ⟨k, hk, hc⟩ := mem_fm.1 hc
                rw [setCs_len (by omega)] at hk
                exact List.mem_cons_of_mem _ (mem_fm.2 ⟨k, hk, fpA_sub k hk _ hc⟩)))
            (fun i2 o2 hne _ h2' c hc => m.dj id i2 ob o2 (Ne.symm hne) hH h2' c (by
              rw [hF]
              rcases List.mem_cons.1 hc with rfl | hc
              · exact List.mem_cons_self ..
              · obtain ⟨k, hk, hc⟩ := mem_fm.1 hc
                rw [setCs_len (by omega)] at hk
                exact List.mem_cons_of_mem _ (mem_fm.2 ⟨k, hk, fpA_sub k hk _ hc⟩)))
          have hJA : ∀ i, i ≠ id → upd g.J id (some (some blk)) i = g.J i := fun i hi => upd_ne _ _ _ _ hi
          have hlA : (setCs ob.cells off anys).length = ob.cells.length := setCs_len (by omega)
          obtain ⟨g2, t2, l2, v2⟩ := adoptL_sound seg b mA (fun k => arr.getD (off + k) Go.undef) (fun k => fp (off + k))
            (fun i i1 i2 => by
              show upd g.J id (some (some blk)) i = none
              rw [hJA i (fun e => hidb (by subst e; omega))]; exact hb i i1 (by omega))
            (fun k hk => by
              obtain ⟨hx, ex⟩ := hsegc k hk
              rw [ex]; exact (hcells (off + k) hx).mono pA fun _ _ => rfl)
            (fun k hk => h1 (off + k) (by omega)) (fun k hk => n1 (off + k) (by omega)) (fun i j hij hj => n2 (off + i) (off + j) (by omega) (by omega))
            (fun k hk c hc => by
              have hcF : c ∈ g.F id := by rw [hF]; exact List.mem_cons_of_mem _ (mem_fm.2 ⟨off + k, by omega, hc⟩)
              refine ⟨m.new id ob hH c hcF, fun i2 o2 h2' hc2 => ?_, m.ms hst id ob hH hlv' c hcF⟩
              by_cases e : i2 = id
              · subst e
                simp only [upd_same] at hc2
                rcases List.mem_cons.1 hc2 with rfl | hc2
                · exact hbn (mem_fm.2 ⟨off + k, by omega, hc⟩)
                · obtain ⟨j, hj, hc2⟩ := mem_fm.1 hc2
                  by_cases e : off ≤ j ∧ j < off + l
                  · simp only [fpA, e, and_self, if_true] at hc2; cases hc2
                  · simp only [fpA, e, if_false] at hc2
                    rcases Nat.lt_or_ge j (off + k) with hlt | hge
                    · exact n2 j (off + k) hlt (by omega) c hc2 hc
                    · exact n2 (off + k) j (by omega) (by omega) c hc hc2
              · simp only [upd_ne _ _ _ _ e] at hc2
                rw [appW_put, if_neg e] at h2'
                simp only [List.not_mem_nil, if_false] at h2'
                exact m.dj id i2 ob o2 (Ne.symm e) hH h2' c hcF hc2)
          obtain ⟨o1, o2, o3⟩ := t2.out id (by rw [hseg]; omega)
          have hH2 : appW (appW H (([].map fun i => (i, (none : Option Ob))) ++ [(id, some { ob with cells := setCs ob.cells off anys })])) (adoptL b seg).2 id = some { ob with cells := setCs ob.cells off anys } := by
            rw [o3, appW_put, if_pos rfl]
          have hF2 : g2.F id = blk :: (List.range (setCs ob.cells off anys).length).flatMap fpA := by rw [o2]; exact upd_same ..
          have hJ2 : g2.J id = some (some blk) := by rw [o1]; exact upd_same ..
          have m2 := t2.m
          have lenR : (adoptL b seg).1.length = l := by omega
          have hlR : (setCs ob.cells off (adoptL b seg).1).length = ob.cells.length := setCs_len (by omega)
          obtain ⟨m3, p3⟩ := m2.put0 (x := id) (gone := []) (ob' := { ob with cells := setCs ob.cells off (adoptL b seg).1 }) (jo' := some blk) (F' := blk :: (List.range (setCs ob.cells off (adoptL b seg).1).length).flatMap fpA) (w' := w)
            rfl rfl rfl (Nat.le_refl _) (fun _ _ => rfl) (fun _ _ => .inl rfl) (fun _ => ⟨_, hH2, .inr ⟨rfl, rfl, hJ2.symm⟩⟩)
            (fun p => by
              refine ⟨arr, e, fr, fpA, hblk, hz, by rw [hlR]; exact hal, fun k hk => ?_, fun k hk => h1 k (by rw [hlR] at hk; exact hk), rfl⟩
              by_cases ek : off ≤ k ∧ k < off + l
              · have e1 := setCs_in (cs := ob.cells) (vs := (adoptL b seg).1) (off := off) (by omega) hk ek.1 (by omega)
                show CR _ _ _ _ (setCs ob.cells off (adoptL b seg).1)[k] _ (fpA k)
                rw [e1]
                simp only [fpA, ek, and_self, if_true]
                have := v2 (k - off) (by omega)
                rw [show off + (k - off) = k by omega] at this
                exact .inl ⟨this.mono p, rfl⟩
              · obtain ⟨q1, q2⟩ := setCs_out (cs := ob.cells) (vs := (adoptL b seg).1) (off := off) (by omega) hk (by omega)
                show CR _ _ _ _ (setCs ob.cells off (adoptL b seg).1)[k] _ (fpA k)
                rw [q2]
                simp only [fpA, ek, if_false]
                exact (hcells k q1).mono ((pA.trans t2.p).trans p) fun _ _ => rfl)
            (by rw [hlR, ← hlA, ← hF2]; exact m2.nd id _ hH2)
            (fun hl c hc => by injection hc with hc; subst hc; exact m2.mu id _ _ hH2 hl hJ2)
            (fun hst hl c hc => m2.ms hst id _ hH2 hl c (by rw [hF2, hlA, ← hlR]; exact hc))
            (fun c hc => m2.new id _ hH2 c (by rw [hF2, hlA, ← hlR]; exact hc))
            (fun i2 o2' hne _ h2' c hc => m2.dj id i2 _ o2' (Ne.symm hne) hH2 h2' c (by rw [hF2, hlA, ← hlR]; exact hc))
          have hHe : appW (appW (appW H (([].map fun i => (i, (none : Option Ob))) ++ [(id, some { ob with cells := setCs ob.cells off anys })])) (adoptL b seg).2) (([].map fun i => (i, (none : Option Ob))) ++ [(id, some { ob with cells := setCs ob.cells off (adoptL b seg).1 })]) =
              appW H ((adoptL b seg).2 ++ [(id, some { ob with cells := setCs ob.cells off (adoptL b seg).1 })]) := by
            funext i
            rw [appW_put, appW_append (adoptL b seg).2]
            simp only [appW, upd, List.not_mem_nil, if_false]
            by_cases e : i = id
            · simp [e]
            · simp only [e, if_false]
              exact appW_congr _ _ _ i (by simp [appW, upd, e])
          rw [hHe] at m3 p3
          refine ⟨_, fun k hk => ?_, lenR, m3, (pA.trans t2.p).trans p3, fun i hi => ?_⟩
          · exact (v2 k hk).mono p3
          · by_cases e : i = id
            · subst e; exact .inl hj
            · have hi' : upd g2.J id (some (some blk)) i ≠ none := hi
              rw [upd_ne _ _ _ _ e] at hi'
              by_cases e2 : b ≤ i ∧ i < b + 64
              · exact .inr e2
              · rw [(t2.out i (by rw [hseg]; omega)).1] at hi'
                left
                have : upd g.J id (some (some blk)) i ≠ none := hi'
                rwa [upd_ne _ _ _ _ e] at this
        have hcell : ∀ j, off + j < ob.cells.length → w.cell? ((⟨blk, off, none⟩ : Addr).add j) = some (arr.getD (off + j) Go.undef) := fun j hj => by
          rw [addr_add]; exact cell_at hblk (by omega)
        cases ag with
        | true =>
          simp only [if_true] at h
          split at h
          · rename_i hfit
            have hlen : ((ob.cells.drop off).take n).length = n := by simp; omega
            have hrun := run_loadAt_agg (P := P) (w := w) (t := t) (a := ⟨blk, off, none⟩) (fun j => arr.getD (off + j) Go.undef) hag hsz fun j hj => hcell j (by omega)
            have hone : ∀ k, k < n → ((((List.range n).map fun j => arr.getD (off + j) Go.undef).toArray).getD k Go.undef).oneCell' = true := fun k hk => by
              rw [gen_getD hk]; exact h1 _ (by omega)
            split at h
            · rename_i hst
              simp only [Bool.and_eq_true] at hst
              split at h
              · rename_i hc
                injection h with h
                subst h
                obtain ⟨g', v', l', m', p', i'⟩ := taking hst.1 n ((ob.cells.drop off).take n) hlen (fun k hk => ⟨_, (take_drop_at hk).2 (take_drop_at hk).1⟩) hfit hc.1 hc.2
                refine ⟨_, g', hrun, ⟨.agg (by simp [l']) (fun k hk => ?_) (fun k hk => hone k (by omega)), m', p', i'⟩⟩
                rw [gen_getD (by omega)]
                exact v' k hk
              · cases h
            · rename_i hst
              obtain ⟨us, hus, rfl⟩ := Option.map_eq_some_iff.1 h
              have hl := mapM_len hus
              obtain ⟨S', m', p', hsee⟩ := see_cells m hH hJ hcells h1 hF hfit (fun hs => by simpa [hs] using hst)
              refine ⟨_, ⟨g.J, S', g.F⟩, hrun, ⟨.agg (by simp; omega) (fun k hk => ?_) (fun k hk => hone k (by omega)), m', p', fun i hi => .inl hi⟩⟩
              have hk2 : k < ((ob.cells.drop off).take n).length := by omega
              obtain ⟨q1, q2⟩ := take_drop_at hk2
              have hvk := mapM_at hus k hk2 hk
              rw [q2 q1] at hvk
              rw [gen_getD (by omega)]
              exact (hcells (off + k) q1).view p' (fun c hc => hsee (off + k) (by omega) (by omega) c hc) hvk
          · cases h
        | false =>
          simp only [Bool.false_eq_true, if_false] at h
          obtain ⟨c, hc, h⟩ := Option.bind_eq_some_iff.1 h
          obtain ⟨ho, rfl⟩ := List.getElem?_eq_some_iff.1 hc
          have hrun := run_loadAt_one (P := P) (w := w) (t := t) (a := ⟨blk, off, none⟩) (v := arr.getD off Go.undef) hag (by
            have := hcell 0 (by omega)
            rw [addr_add] at this
            exact this)
          split at h
          · rename_i hst
            simp only [Bool.and_eq_true] at hst
            split at h
            · rename_i hlv
              injection h with h
              subst h
              obtain ⟨g', v', l', m', p', i'⟩ := taking hst.1 1 [ob.cells[off]] rfl (fun k hk => by
                have : k = 0 := by simpa using hk
                subst this
                exact ⟨ho, rfl⟩) (by omega) (by omega) hlv
              refine ⟨_, g', hrun, ⟨?_, m', p', i'⟩⟩
              have := v' 0 (by omega)
              rw [Nat.add_zero] at this
              exact this
            · cases h
          · rename_i hst
            obtain ⟨u, hu, rfl⟩ := Option.map_eq_some_iff.1 h
            obtain ⟨S', m', p', hsee⟩ := see_cells m hH hJ hcells h1 hF (off := off) (n := 1) (by omega) (fun hs => by
              rw [List.any_eq_false]
              intro x hx
              obtain ⟨k, hk, rfl⟩ := List.getElem_of_mem hx
              obtain ⟨q1, q2⟩ := take_drop_at hk
              have : k = 0 := by simp at hk; omega
              subst this
              rw [q2 q1]
              simpa [hs] using hst)
            exact ⟨_, ⟨g.J, S', g.F⟩, hrun, ⟨(hcells off ho).view p' (fun c hc => hsee off (by omega) (by omega) c hc) hu, m', p', fun i hi => .inl hi⟩⟩
      · cases h
    · -- what is only read
      rename_i cs off
      obtain ⟨ad, f, rfl, hS, hd, hp, hone⟩ := ha.ref_inv
      cases ag with
      | true =>
        simp only [if_true] at h
        split at h
        · rename_i hfit
          simp only [ret, Option.some.injEq] at h
          subst h
          have hlen : ((cs.drop off).take n).length = n := by simp; omega
          have hrun := run_loadAt_agg (P := P) (w := w) (t := t) (a := ad.add off) (fun j => f (off + j)) hag hsz fun j hj => by rw [add_add]; exact hd _ (by omega)
          refine ⟨_, g, hrun, .same m rfl (.pure (.agg (by simp; omega) (fun k hk => ?_) fun k hk => ?_))⟩
          · obtain ⟨q1, q2⟩ := take_drop_at hk
            rw [gen_getD (by omega), q2 q1]
            exact hp _ q1
          · rw [gen_getD (by omega)]; exact hone _ (by omega)
        · cases h
      | false =>
        simp only [Bool.false_eq_true, if_false] at h
        obtain ⟨c, hc, h⟩ := Option.bind_eq_some_iff.1 h
        obtain ⟨ho, rfl⟩ := List.getElem?_eq_some_iff.1 hc
        simp only [ret, Option.some.injEq] at h
        subst h
        exact ⟨_, g, run_loadAt_one hag (hd off ho), .same m rfl (.pure (hp off ho))⟩
    · cases h
end

end Go.Proofs.Ytacfkfdnncgjcaa.Ev
end
