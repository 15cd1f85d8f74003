/- The abstract interpreter: changes of the memory. Conditions: none. -/
import Derived.Test.YtclebbjpacpbmaaEvF
set_option linter.unusedVariables false
set_option linter.unusedSimpArgs false
namespace Go.Proofs.Ytclebbjpacpbmaa.Ev
open Go

theorem appW_append : ∀ (l1 l2 : List (Nat × Option Ob)) (H : Nat → Option Ob), appW H (l1 ++ l2) = appW (appW H l1) l2
  | [], l2, H => rfl
  | (i, o) :: l1, l2, H => appW_append l1 l2 (upd H i o)
theorem appW_gone : ∀ (gone : List Nat) (H : Nat → Option Ob) (id : Nat), appW H (gone.map fun i => (i, none)) id = if id ∈ gone then none else H id
  | [], H, id => by simp [appW]
  | a :: gone, H, id => by
    simp only [List.map_cons, appW, appW_gone gone, List.mem_cons, upd]
    by_cases h1 : id ∈ gone <;> by_cases h2 : id = a <;> simp [h1, h2]
theorem appW_put (H : Nat → Option Ob) (gone : List Nat) (x : Nat) (o : Ob) (id : Nat) :
    appW H ((gone.map fun i => (i, none)) ++ [(x, some o)]) id = if id = x then some o else if id ∈ gone then none else H id := by
  rw [appW_append]
  simp only [appW, upd, appW_gone]

theorem appW_congr : ∀ (l : List (Nat × Option Ob)) (H H' : Nat → Option Ob) (i : Nat), H i = H' i → appW H l i = appW H' l i
  | [], _, _, _, h => h
  | (j, o) :: l, H, H', i, h => appW_congr l _ _ i (by simp only [upd]; split <;> simp [h])

/-! ### Cells of an array -/
def putA (arr : Array Value) (o : Nat) : List Value → Array Value
  | [] => arr
  | v :: r => putA (arr.setIfInBounds o v) (o + 1) r
theorem putA_size : ∀ (vs : List Value) (o : Nat) (arr : Array Value), (putA arr o vs).size = arr.size
  | [], _, _ => rfl
  | v :: r, o, arr => by rw [putA, putA_size r]; simp
theorem putA_out : ∀ (vs : List Value) (o : Nat) (arr : Array Value) (k : Nat), ¬ (o ≤ k ∧ k < o + vs.length) → (putA arr o vs).getD k Go.undef = arr.getD k Go.undef
  | [], _, _, _, _ => rfl
  | v :: r, o, arr, k, h => by
    simp only [List.length_cons] at h
    rw [putA, putA_out r (o + 1) _ k (by omega)]
    have : o ≠ k := by omega
    simp only [Array.getD, Array.size_setIfInBounds]
    split
    · simp only [Array.getInternal_eq_getElem]; rw [Array.getElem_setIfInBounds_ne (by assumption) this]
    · rfl
theorem putA_in : ∀ (vs : List Value) (o : Nat) (arr : Array Value) (k : Nat) (hk : k < vs.length), o + vs.length ≤ arr.size → (putA arr o vs).getD (o + k) Go.undef = vs[k]
  | v :: r, o, arr, 0, _, h => by
    simp only [List.length_cons] at h
    rw [putA, show o + 0 = o from rfl, putA_out r (o + 1) _ o (by omega)]
    have : o < arr.size := by omega
    simp [Array.getD, this]
  | v :: r, o, arr, k + 1, hk, h => by
    simp only [List.length_cons] at h hk
    rw [putA, show o + (k + 1) = o + 1 + k by omega, putA_in r (o + 1) _ k (by omega) (by simp; omega)]
    simp

theorem heap_setCell {w : World} {b o : Nat} {arr : Array Value} {e : TypeId} {fr : Nat × Nat} {v : Value} (h : w.heap[b]? = some (.cells arr e fr)) :
    (w.setCell ⟨b, o, none⟩ v).heap[b]? = some (.cells (arr.setIfInBounds o v) e fr) := by
  simp [World.setCell, Array.getElem?_modify, h]

theorem heap_setCells {b : Nat} : ∀ (vs : List Value) (o : Nat) (w : World) (arr : Array Value) (e : TypeId) (fr : Nat × Nat), w.heap[b]? = some (.cells arr e fr) →
    (w.setCells b o vs).heap[b]? = some (.cells (putA arr o vs) e fr) ∧ (∀ k, k ≠ b → (w.setCells b o vs).heap[k]? = w.heap[k]?) ∧ (w.setCells b o vs).heap.size = w.heap.size ∧
      (w.setCells b o vs).os = w.os ∧ (w.setCells b o vs).tape = w.tape ∧ (w.setCells b o vs).output = w.output
  | [], _, w, _, _, _, h => ⟨h, fun _ _ => rfl, rfl, rfl, rfl, rfl⟩
  | v :: r, o, w, arr, e, fr, h => by
    obtain ⟨h1, h2, h3, h4, h5, h6⟩ := heap_setCells r (o + 1) (w.setCell ⟨b, o, none⟩ v) _ e fr (heap_setCell (o := o) (v := v) h)
    refine ⟨h1, fun k hk => (h2 k hk).trans ?_, h3.trans (by simp [World.setCell]), h4, h5, h6⟩
    exact Go.RowKit.Below.heap_setCell w ⟨b, o, none⟩ v k hk

section
variable {B : Beg} {H : Nat → Option Ob} {w : World} {g : Gh}

/-- One object is written or made, others go into it. -/
theorem MR.put0 (m : MR B H w g) {x : Nat} {gone : List Nat} {ob' : Ob} {jo' : Option Nat} {F' : List Nat} {w' : World}
    (hos : w'.os = w.os) (htape : w'.tape = w.tape) (hout : w'.output = w.output) (hsize : w.heap.size ≤ w'.heap.size) (hbs : ∀ b, b < w.heap.size → bsz w' b = bsz w b)
    (hblk : ∀ b, b < w.heap.size → w'.heap[b]? = w.heap[b]? ∨ ∃ ob, H x = some ob ∧ 1 ≤ ob.lv ∧ g.J x = some (some b))
    (hver : g.J x ≠ none → ∃ ob, H x = some ob ∧ (ob.ver < ob'.ver ∨ (ob.ver = ob'.ver ∧ ob.sz = ob'.sz ∧ some jo' = g.J x)))
    (hO : Pers w g.S g.J H w' g.S (upd g.J x (some jo')) (appW H ((gone.map fun i => (i, none)) ++ [(x, some ob')])) →
      OR w' g.S (upd g.J x (some jo')) (appW H ((gone.map fun i => (i, none)) ++ [(x, some ob')])) ob' jo' F')
    (hn : F'.Nodup) (hmu : 1 ≤ ob'.lv → ∀ b, jo' = some b → ¬ g.S b) (hms : B.strict = true → 1 ≤ ob'.lv → ∀ b, b ∈ F' → ¬ g.S b) (hnew : ∀ b, b ∈ F' → b ∈ B.fp ∨ B.w.heap.size ≤ b)
    (hdj : ∀ id ob, id ≠ x → id ∉ gone → H id = some ob → ∀ b, b ∈ F' → b ∉ g.F id) :
    MR B (appW H ((gone.map fun i => (i, none)) ++ [(x, some ob')])) w' ⟨upd g.J x (some jo'), g.S, upd g.F x F'⟩ ∧
      Pers w g.S g.J H w' g.S (upd g.J x (some jo')) (appW H ((gone.map fun i => (i, none)) ++ [(x, some ob')])) := by
  have c : Chg B H w g (fun id => id = x ∨ id ∈ gone) (appW H ((gone.map fun i => (i, none)) ++ [(x, some ob')])) w' ⟨upd g.J x (some jo'), g.S, upd g.F x F'⟩ := by
    constructor
    · intro id hc
      simp only [not_or] at hc
      refine ⟨by rw [appW_put]; simp [hc], upd_ne _ _ _ _ hc.1, upd_ne _ _ _ _ hc.1⟩
    · exact hos
    · exact htape
    · exact hout
    · exact hsize
    · exact hbs
    · intro b hb
      exact (hblk b hb).imp (fun h => h) fun ⟨ob, h1, h2, h3⟩ => ⟨x, ob, .inl rfl, h1, m.own h1 h3, m.mu x ob b h1 h2 h3⟩
    · exact fun b h => h
    · exact fun b h => Nat.lt_of_lt_of_le (m.lt b h) hsize
    · exact m.s1
    · intro id hc hj
      by_cases e : id = x
      · subst e; simp [upd_same]
      · show upd g.J x (some jo') id ≠ none
        rw [upd_ne _ _ _ _ e]; exact hj
    · intro id ob'' hc hj he
      by_cases e : id = x
      · subst e
        rw [appW_put, if_pos rfl] at he
        injection he with he
        subst he
        obtain ⟨ob, h1, h2⟩ := hver hj
        exact ⟨ob, h1, h2.imp (fun h => h) fun h => ⟨h.1, h.2.1, by show upd g.J id (some jo') id = _; rw [upd_same]; exact h.2.2⟩⟩
      · have hg := hc.resolve_left e
        rw [appW_put, if_neg e, if_pos hg] at he
        cases he
    · exact fun id ob b hc e hl hj => m.mu id ob b e hl hj
    · exact fun hs id ob hc e hl b hb => m.ms hs id ob e hl b hb
  have p := c.toPers m
  refine ⟨c.next m ?_, p⟩
  intro id ob'' hc he
  have e : id = x := by
    rcases hc with e | hg
    · exact e
    · by_cases e : id = x
      · exact e
      · rw [appW_put, if_neg e, if_pos hg] at he; cases he
  subst e
  rw [appW_put, if_pos rfl] at he
  injection he with he
  subst he
  refine ⟨jo', upd_same .., by simpa [upd_same] using hO p, by simpa [upd_same] using hn, fun hl => ⟨fun b hb => hmu hl b hb, fun hs b hb => ?_⟩, fun b hb => ?_, fun id2 ob2 hne h2 b hb hb2 => ?_⟩
  · simp only [upd_same] at hb; exact hms hs hl b hb
  · simp only [upd_same] at hb; exact hnew b hb
  · simp only [upd_same] at hb
    simp only [upd_ne _ _ _ _ hne] at hb2
    have hng : id2 ∉ gone := fun hg => by rw [appW_put, if_neg hne, if_pos hg] at h2; cases h2
    rw [appW_put, if_neg hne, if_neg hng] at h2
    exact hdj id2 ob2 hne hng h2 b hb hb2

/-- One object is written or made, others go into it. -/
theorem MR.put (m : MR B H w g) {x : Nat} {gone : List Nat} {ob' : Ob} {jo' : Option Nat} {F' : List Nat} {w' : World}
    (hos : w'.os = w.os) (htape : w'.tape = w.tape) (hout : w'.output = w.output) (hsize : w.heap.size ≤ w'.heap.size) (hbs : ∀ b, b < w.heap.size → bsz w' b = bsz w b)
    (hblk : ∀ b, b < w.heap.size → w'.heap[b]? = w.heap[b]? ∨ ∃ ob, H x = some ob ∧ 1 ≤ ob.lv ∧ g.J x = some (some b))
    (hver : g.J x ≠ none → ∃ ob, H x = some ob ∧ (ob.ver < ob'.ver ∨ (ob.ver = ob'.ver ∧ ob.sz = ob'.sz ∧ some jo' = g.J x)))
    (hO : Pers w g.S g.J H w' g.S (upd g.J x (some jo')) (appW H ((gone.map fun i => (i, none)) ++ [(x, some ob')])) →
      OR w' g.S (upd g.J x (some jo')) (appW H ((gone.map fun i => (i, none)) ++ [(x, some ob')])) ob' jo' F')
    (hn : F'.Nodup) (hjo : ∀ b, jo' = some b → w.heap.size ≤ b ∨ ∃ ob, H x = some ob ∧ 1 ≤ ob.lv ∧ g.J x = some (some b))
    (hfrom : ∀ b, b ∈ F' → w.heap.size ≤ b ∨ ∃ id ob, (id = x ∨ id ∈ gone) ∧ H id = some ob ∧ 1 ≤ ob.lv ∧ b ∈ g.F id) :
    MR B (appW H ((gone.map fun i => (i, none)) ++ [(x, some ob')])) w' ⟨upd g.J x (some jo'), g.S, upd g.F x F'⟩ ∧
      Pers w g.S g.J H w' g.S (upd g.J x (some jo')) (appW H ((gone.map fun i => (i, none)) ++ [(x, some ob')])) := by
  refine m.put0 hos htape hout hsize hbs hblk hver hO hn (fun _ b hb hS => ?_) (fun hs _ b hb hS => ?_) (fun b hb => ?_) fun id2 ob2 hne hng h2 b hb hb2 => ?_
  · rcases hjo b hb with h | ⟨ob, h1, h2, h3⟩
    · have := m.lt b hS; omega
    · exact m.mu x ob b h1 h2 h3 hS
  · rcases hfrom b hb with h | ⟨id3, ob3, _, h1, h2, h3⟩
    · have := m.lt b hS; omega
    · exact m.ms hs id3 ob3 h1 h2 b h3 hS
  · rcases hfrom b hb with h | ⟨id3, ob3, _, h1, h2, h3⟩
    · have := m.size; right; omega
    · exact m.new id3 ob3 h1 b h3
  · rcases hfrom b hb with h | ⟨id3, ob3, h0, h1, hl3, h3⟩
    · have := m.flt h2 b hb2; omega
    · refine m.dj id3 id2 ob3 ob2 (fun e => ?_) h1 h2 b h3 hb2
      rcases h0 with h0 | h0
      · exact hne (by rw [← e, h0])
      · exact hng (by rw [← e]; exact h0)

theorem bsz_of_heap {w w' : World} {b : Nat} (h : w'.heap[b]? = w.heap[b]?) : bsz w' b = bsz w b := by simp only [bsz, h]

/-- A new object. -/
theorem MR.made (m : MR B H w g) {x : Nat} (hx : g.J x = none) {lv sz : Nat} {cells : List V} {gone : List Nat} {arr : Array Value} {e : TypeId} {fr : Nat × Nat} {w' : World} (fp : Nat → List Nat)
    (hos : w'.os = w.os) (htape : w'.tape = w.tape) (hout : w'.output = w.output) (hsize : w'.heap.size = w.heap.size + 1)
    (hheap : ∀ b, b < w.heap.size → w'.heap[b]? = w.heap[b]?) (hb : w'.heap[w.heap.size]? = some (.cells arr e fr)) (hz : unfz arr fr)
    (hl : cells.length ≤ arr.size) (hc : ∀ k (hk : k < cells.length), CR w g.S g.J H cells[k] (arr.getD k Go.undef) (fp k)) (h1 : ∀ k, k < cells.length → (arr.getD k Go.undef).oneCell' = true)
    (hn : ((List.range cells.length).flatMap fp).Nodup) (hf : ∀ b, b ∈ (List.range cells.length).flatMap fp → ∃ id ob, id ∈ gone ∧ H id = some ob ∧ 1 ≤ ob.lv ∧ b ∈ g.F id) :
    ∃ g', g'.S = g.S ∧ g'.J = upd g.J x (some (some w.heap.size)) ∧ MR B (appW H ((gone.map fun i => (i, none)) ++ [(x, some ⟨0, lv, sz, cells⟩)])) w' g' ∧
      Pers w g.S g.J H w' g'.S g'.J (appW H ((gone.map fun i => (i, none)) ++ [(x, some ⟨0, lv, sz, cells⟩)])) := by
  have hlt : ∀ b, b ∈ (List.range cells.length).flatMap fp → b < w.heap.size := fun b hb => by
    obtain ⟨id, ob, _, h, _, hF⟩ := hf b hb
    exact m.flt h b hF
  obtain ⟨r1, r2⟩ := m.put (x := x) (gone := gone) (ob' := ⟨0, lv, sz, cells⟩) (jo' := some w.heap.size) (F' := w.heap.size :: (List.range cells.length).flatMap fp) (w' := w')
    hos htape hout (by omega) (fun b hb => bsz_of_heap (hheap b hb)) (fun b hb => .inl (hheap b hb)) (fun h => absurd hx h)
    (fun p => ⟨arr, e, fr, fp, hb, hz, hl, fun k hk => (hc k hk).mono p fun b hb' => hheap b (hlt b (mem_fm.2 ⟨k, hk, hb'⟩)), h1, rfl⟩)
    (List.nodup_cons.2 ⟨fun h => by have := hlt _ h; omega, hn⟩)
    (fun b hb => by injection hb with hb; left; omega)
    (fun b hb => by
      rcases List.mem_cons.1 hb with rfl | hb
      · left; omega
      · obtain ⟨id, ob, h1, h2, h3, h4⟩ := hf b hb
        exact .inr ⟨id, ob, .inr h1, h2, h3, h4⟩)
  exact ⟨⟨upd g.J x (some (some w.heap.size)), g.S, _⟩, rfl, rfl, r1, r2⟩

/-- Cells of an object's block are written. -/
theorem MR.write (m : MR B H w g) {id b : Nat} {ob : Ob} (hH : H id = some ob) (hJ : g.J id = some (some b)) (hlv : 1 ≤ ob.lv) {gone : List Nat} (hg : id ∉ gone) {off v' : Nat} {vs cells' : List V} {xs : List Value} (fp : Nat → List Nat)
    (hv : ob.ver ≤ v') (hxs : vs.length = xs.length) (hcap : cells'.length ≤ bsz w b) (hfit : off + vs.length ≤ bsz w b)
    (hin : ∀ k (hk : k < cells'.length), off ≤ k → ∀ h : k - off < vs.length, cells'[k] = vs[k - off])
    (hold : ∀ k (hk : k < cells'.length), ¬ (off ≤ k ∧ k < off + vs.length) → ∃ h : k < ob.cells.length, cells'[k] = ob.cells[k])
    (hc : ∀ k (hk : k < vs.length) (hk' : k < xs.length), CR w g.S g.J H vs[k] xs[k] (fp k)) (h1 : ∀ x, x ∈ xs → x.oneCell' = true)
    (hn : ((List.range vs.length).flatMap fp).Nodup) (hf : ∀ c, c ∈ (List.range vs.length).flatMap fp → ∃ id ob, id ∈ gone ∧ H id = some ob ∧ 1 ≤ ob.lv ∧ c ∈ g.F id) :
    ∃ g', g'.S = g.S ∧ g'.J = upd g.J id (some (some b)) ∧ MR B (appW H ((gone.map fun i => (i, none)) ++ [(id, some { ob with ver := v', cells := cells' })])) (w.setCells b off xs) g' ∧
      Pers w g.S g.J H (w.setCells b off xs) g'.S g'.J (appW H ((gone.map fun i => (i, none)) ++ [(id, some { ob with ver := v', cells := cells' })])) := by
  obtain ⟨arr, e, fr, fp0, hb, hz, hal, hcells, hone, hF⟩ := m.ob id ob _ hH hJ
  have hbs : bsz w b = arr.size := by simp only [bsz, hb]
  rw [hbs] at hcap hfit
  obtain ⟨q1, q2, q3, q4, q5, q6⟩ := heap_setCells xs off w arr e fr hb
  have hnF := m.nd id ob hH
  rw [hF] at hnF
  obtain ⟨hbn, hnF⟩ := List.nodup_cons.1 hnF
  obtain ⟨n1, n2⟩ := nodup_fm.1 hnF
  obtain ⟨m1, m2⟩ := nodup_fm.1 hn
  -- the new footprints
  let fp' : Nat → List Nat := fun k => if off ≤ k ∧ k < off + vs.length then fp (k - off) else fp0 k
  have hbF : b ∈ g.F id := m.own hH hJ
  have old_in : ∀ k, k < ob.cells.length → ∀ c, c ∈ fp0 k → c ∈ g.F id := fun k hk c hc => by rw [hF]; exact List.mem_cons_of_mem _ (mem_fm.2 ⟨k, hk, hc⟩)
  have new_apart : ∀ k, k < vs.length → ∀ c, c ∈ fp k → c ∉ g.F id := fun k hk c hc hc' => by
    obtain ⟨id2, ob2, h1, h2, _, h3⟩ := hf c (mem_fm.2 ⟨k, hk, hc⟩)
    exact m.dj id2 id ob2 ob (fun e => hg (e ▸ h1)) h2 hH c h3 hc'
  have kind : ∀ k, k < cells'.length → (off ≤ k ∧ k < off + vs.length ∧ fp' k = fp (k - off)) ∨ (¬ (off ≤ k ∧ k < off + vs.length) ∧ k < ob.cells.length ∧ fp' k = fp0 k) := fun k hk => by
    by_cases h : off ≤ k ∧ k < off + vs.length
    · exact .inl ⟨h.1, h.2, if_pos h⟩
    · obtain ⟨h', _⟩ := hold k hk h
      exact .inr ⟨h, h', if_neg h⟩
  have hnb : ∀ k, k < cells'.length → ∀ c, c ∈ fp' k → c ≠ b := fun k hk c hc e => by
    subst e
    rcases kind k hk with ⟨ha, hb', e⟩ | ⟨_, hk', e⟩
    · rw [e] at hc; exact new_apart _ (by omega) _ hc hbF
    · rw [e] at hc; exact hbn (mem_fm.2 ⟨k, hk', hc⟩)
  obtain ⟨r1, r2⟩ := m.put (x := id) (gone := gone) (ob' := { ob with ver := v', cells := cells' }) (jo' := some b) (F' := b :: (List.range cells'.length).flatMap fp') (w' := w.setCells b off xs)
    q4 q5 q6 (by omega) (fun c hc => by
      by_cases e : c = b
      · subst e; simp only [bsz, q1, hb, putA_size]
      · exact bsz_of_heap (q2 c e))
    (fun c hc => by
      by_cases e : c = b
      · subst e; exact .inr ⟨ob, hH, hlv, hJ⟩
      · exact .inl (q2 c e))
    (fun _ => ⟨ob, hH, by
      rcases Nat.lt_or_ge ob.ver v' with h | h
      · exact .inl h
      · exact .inr ⟨by show ob.ver = v'; omega, rfl, hJ.symm⟩⟩)
    (fun p => by
      refine ⟨putA arr off xs, e, fr, fp', q1, fun k hk => hz k (by rw [putA_size] at hk; exact hk), by rw [putA_size]; exact hcap, fun k hk => ?_, fun k hk => ?_, rfl⟩
      · refine CR.mono p ?_ fun c hc => q2 c (hnb k hk c hc)
        rcases kind k hk with ⟨ha, hb', e⟩ | ⟨hno, hk', e⟩
        · show CR w g.S g.J H cells'[k] _ (fp' k)
          rw [e, hin k hk ha (by omega)]
          have := putA_in xs off arr (k - off) (by omega) (by omega)
          rw [show off + (k - off) = k by omega] at this
          rw [this]
          exact hc (k - off) (by omega) (by omega)
        · obtain ⟨_, h⟩ := hold k hk hno
          show CR w g.S g.J H cells'[k] _ (fp' k)
          rw [e, h, putA_out xs off arr k (by omega)]
          exact hcells k hk'
      · rcases kind k hk with ⟨ha, hb', e⟩ | ⟨hno, hk', e⟩
        · have := putA_in xs off arr (k - off) (by omega) (by omega)
          rw [show off + (k - off) = k by omega] at this
          rw [this]
          exact h1 _ (List.getElem_mem _)
        · rw [putA_out xs off arr k (by omega)]
          exact hone k hk')
    (by
      refine List.nodup_cons.2 ⟨fun h => ?_, nodup_fm.2 ⟨fun k hk => ?_, fun i j hij hj c hc hc' => ?_⟩⟩
      · obtain ⟨k, hk, h⟩ := mem_fm.1 h
        exact hnb k hk b h rfl
      · rcases kind k hk with ⟨ha, hb', e⟩ | ⟨hno, hk', e⟩
        · rw [e]; exact m1 _ (by omega)
        · rw [e]; exact n1 _ hk'
      · rcases kind i (by omega) with ⟨ha, hb', e⟩ | ⟨hno, hk', e⟩ <;> rcases kind j hj with ⟨ha2, hb2, e2⟩ | ⟨hno2, hk2, e2⟩ <;> rw [e] at hc <;> rw [e2] at hc'
        · exact m2 (i - off) (j - off) (by omega) (by omega) c hc hc'
        · exact new_apart _ (by omega) c hc (old_in j hk2 c hc')
        · exact new_apart _ (by omega) c hc' (old_in i hk' c hc)
        · exact n2 i j hij hk2 c hc hc')
    (fun c hc => by injection hc with hc; subst hc; exact .inr ⟨ob, hH, hlv, hJ⟩)
    (fun c hc => by
      rcases List.mem_cons.1 hc with rfl | hc
      · exact .inr ⟨id, ob, .inl rfl, hH, hlv, hbF⟩
      · obtain ⟨k, hk, hc⟩ := mem_fm.1 hc
        rcases kind k hk with ⟨ha, hb', e⟩ | ⟨hno, hk', e⟩
        · rw [e] at hc
          obtain ⟨id2, ob2, h1, h2, h3, h4⟩ := hf c (mem_fm.2 ⟨k - off, by omega, hc⟩)
          exact .inr ⟨id2, ob2, .inr h1, h2, h3, h4⟩
        · rw [e] at hc
          exact .inr ⟨id, ob, .inl rfl, hH, hlv, old_in k hk' c hc⟩)
  exact ⟨⟨upd g.J id (some (some b)), g.S, _⟩, rfl, rfl, r1, r2⟩

/-- More blocks are seen: nothing writes them from now on. -/
theorem MR.see (m : MR B H w g) {id : Nat} {ob : Ob} (hH : H id = some ob) (X : Nat → Prop) (hX : ∀ b, X b → b ∈ g.F id ∧ g.J id ≠ some (some b)) (hs : B.strict = true → ∀ b, ¬ X b) :
    MR B H w ⟨g.J, fun b => g.S b ∨ X b, g.F⟩ ∧ Pers w g.S g.J H w (fun b => g.S b ∨ X b) g.J H := by
  have p : Pers w g.S g.J H w (fun b => g.S b ∨ X b) g.J H := ⟨fun b h => .inl h, fun b _ => (rfl : w.heap[b]? = w.heap[b]?), fun _ h => h, fun id ob' _ h => ⟨ob', h, .inr ⟨rfl, rfl, rfl, fun _ _ => rfl⟩⟩⟩
  refine ⟨⟨m.hj, fun id' ob' jo h hj => (m.ob id' ob' jo h hj).mono p fun b _ => (rfl : w.heap[b]? = w.heap[b]?), m.nd, m.dj, fun id' ob' b h hl hj hS => ?_, fun hst id' ob' h hl b hb hS => ?_, m.new, fun b hb => ?_, fun b hb => .inl (m.s0 b hb), fun b hb => ?_, m.os, m.tape, m.output, m.size, m.fm, m.bs⟩, p⟩
  · rcases hS with hS | hS
    · exact m.mu id' ob' b h hl hj hS
    · obtain ⟨h1, h2⟩ := hX b hS
      by_cases e : id' = id
      · subst e; exact h2 hj
      · exact m.dj id' id ob' ob e h hH b (m.own h hj) h1
  · rcases hS with hS | hS
    · exact m.ms hst id' ob' h hl b hb hS
    · exact hs hst b hS
  · rcases hb with hb | hb
    · exact m.lt b hb
    · exact m.flt hH b (hX b hb).1
  · rcases hb with hb | hb
    · exact m.s1 b hb
    · rcases m.new id ob hH b (hX b hb).1 with h | h
      · exact .inr (.inr h)
      · exact .inr (.inl h)

/-- A draw turns nothing. -/
theorem MR.drew (m : MR B H w g) {w' : World} (hheap : w'.heap = w.heap) (hos : w'.os = w.os) (htape : w'.tape = w.tape) (hout : w'.output = w.output) : MR B H w' g ∧ Pers w g.S g.J H w' g.S g.J H := by
  have hb : ∀ b : Nat, w'.heap[b]? = w.heap[b]? := fun b => by rw [hheap]
  have p : Pers w g.S g.J H w' g.S g.J H := ⟨fun b h => h, fun b _ => hb b, fun _ h => h, fun id ob' _ h => ⟨ob', h, .inr ⟨rfl, rfl, rfl, fun b _ => bsz_of_heap (hb b)⟩⟩⟩
  exact ⟨⟨m.hj, fun id' ob' jo h hj => (m.ob id' ob' jo h hj).mono p fun b _ => hb b, m.nd, m.dj, m.mu, m.ms, m.new, fun b h => by rw [hheap]; exact m.lt b h, m.s0, m.s1, hos.trans m.os, htape.trans m.tape, hout.trans m.output,
    by rw [hheap]; exact m.size, fun b h1 h2 => (hb b).trans (m.fm b h1 h2), fun b h => (bsz_of_heap (hb b)).trans (m.bs b h)⟩, p⟩
end

end Go.Proofs.Ytclebbjpacpbmaa.Ev
