/- The abstract interpreter: appends, copies. Conditions: none. -/
import Derived.Test.YtclebbjpacpbmaaEvK
import Derived.Deep.Upon
set_option linter.unusedVariables false
set_option linter.unusedSimpArgs false
namespace Go.Proofs.Ytclebbjpacpbmaa.Ev
open Go

section
variable {B : Beg} {H : Nat → Option Ob} {w : World} {g : Gh} {P : Program} {b : Nat}

theorem ap_und {t e : TypeId} {sz bytes : Nat} (h : apT P t = some (e, sz, bytes)) : P.underlying t = some (.slice e) ∧ ∃ i z, P.info? e = some i ∧ i.zero = some z ∧ i.size = sz ∧ i.bytes = bytes ∧ z.cells.size = sz ∧ 0 < sz ∧ 0 < bytes := by
  unfold apT at h
  split at h
  · rename_i e0 sz0 by0 hs
    split at h
    · rename_i z hz
      split at h
      · cases h
      · rename_i hc
        simp only [Option.some.injEq, Prod.mk.injEq] at h
        obtain ⟨rfl, rfl, rfl⟩ := h
        obtain ⟨hu, i, hi, h1, h2⟩ := sl_und hs
        obtain ⟨i', hi', hz⟩ := Option.bind_eq_some_iff.1 hz
        rw [hi] at hi'
        injection hi' with hi'
        subst hi'
        simp only [not_or, Classical.not_not, ne_eq] at hc
        exact ⟨hu, i, z, hi, hz, h1, h2, hc.2.2, by omega, by omega⟩
    · cases h
  · cases h

/-- What is read of a slice: its cells as values, and what they own. -/
structure Seg (H : Nat → Option Ob) (w : World) (g : Gh) (cs : List V) (xs : List Value) (fp : Nat → List Nat) (ids : List Nat) : Prop where
  len : cs.length = xs.length
  cr : ∀ k (hk : k < cs.length) (hk' : k < xs.length), CR w g.S g.J H cs[k] xs[k] (fp k)
  one : ∀ x, x ∈ xs → x.oneCell' = true
  nd : ((List.range cs.length).flatMap fp).Nodup
  flat : cs.any hasU = false → ∀ k, k < cs.length → fp k = []
  own : ∀ c, c ∈ (List.range cs.length).flatMap fp → ∃ id ob, id ∈ ids ∧ H id = some ob ∧ c ∈ g.F id

theorem Seg.nil : Seg H w g [] [] (fun _ => []) [] := ⟨rfl, fun k hk => (by simp at hk), fun x hx => (by cases hx), List.nodup_nil, fun _ k hk => (by simp at hk), fun c hc => (by cases hc)⟩

/-- A slice, read whole. -/
theorem seg_sound (m : MR B H w g) {sz n : Nat} (h0 : 0 < sz) {v : V} {y : Value} {cs : List V} {ids : List Nat} (h : segV H sz v = some (cs, ids)) (hl : lenV v = some n) (hv : VR w g.S g.J H v y) :
    ∃ (A : Option Addr) (c : Nat) (xs : List Value) (fp : Nat → List Nat), y = .slice A n c ∧ n ≤ c ∧ c ≤ maxLen ∧ xs.length = n * sz ∧ Seg H w g cs xs fp ids ∧ (n = 0 ∨ ∃ a, A = some a ∧ ∀ j x, xs[j]? = some x → w.cell? (a.add j) = some x) ∧ (∀ id, id ∈ ids → ∃ ob, H id = some ob) := by
  unfold segV at h
  split at h
  · simp only [Option.some.injEq, Prod.mk.injEq] at h
    obtain ⟨rfl, rfl⟩ := h
    simp only [lenV, Option.some.injEq] at hl
    subst hl
    obtain ⟨A, rfl⟩ := hv.nils_inv
    exact ⟨A, 0, [], fun _ => [], rfl, Nat.le_refl _, by simp [maxLen], by simp, .nil, .inl rfl, fun id hid => by cases hid⟩
  · rename_i n0 cs0
    split at h
    · rename_i hfit
      simp only [Option.some.injEq, Prod.mk.injEq] at h
      obtain ⟨rfl, rfl⟩ := h
      simp only [lenV, Option.some.injEq] at hl
      subst hl
      obtain ⟨A, c, f, rfl, hA, hn, hm, hp, h1⟩ := hv.list_inv
      have hlen : (cs0.take (n0 * sz)).length = n0 * sz := by simp; omega
      refine ⟨A, c, (List.range (n0 * sz)).map f, fun _ => [], rfl, hn, hm, by simp, ⟨by simp; omega, fun k hk hk' => ?_, fun x hx => ?_, by rw [fm_nil]; exact List.nodup_nil, fun _ _ _ => rfl, fun c hc => by rw [fm_nil] at hc; cases hc⟩, ?_, fun id hid => by cases hid⟩
      · simp only [List.getElem_take, List.getElem_map, List.getElem_range]
        exact .inl ⟨.pure (hp k (by omega)), rfl⟩
      · obtain ⟨k, hk, rfl⟩ := List.mem_map.1 hx
        exact h1 k (by have := List.mem_range.1 hk; omega)
      · rcases hA with hA | ⟨a, rfl, hS, hc⟩
        · subst hA
          left
          have : n0 * sz = 0 := by simpa using hfit
          rcases Nat.mul_eq_zero.1 this with h | h <;> omega
        · refine .inr ⟨a, rfl, fun j x hx => ?_⟩
          obtain ⟨hj, rfl⟩ := List.getElem?_eq_some_iff.1 hx
          have hj' : j < n0 * sz := by simpa using hj
          simp only [List.getElem_map, List.getElem_range]
          exact hc j (by omega)
    · cases h
  · rename_i id ver off len
    split at h
    · rename_i ob hob
      obtain ⟨hH, hver⟩ := getO_some hob
      split at h
      · rename_i hfit
        simp only [Option.some.injEq, Prod.mk.injEq] at h
        obtain ⟨rfl, rfl⟩ := h
        simp only [lenV, Option.some.injEq] at hl
        subst hl
        obtain ⟨A, c, rfl, hj, hlc, hcm, hA0, hv'⟩ := hv.sl_inv
        rcases (hv' ob hH).2 hver with ⟨hc0, hl0, hj0⟩ | ⟨hc1, blk, hJ, rfl, hcap⟩
        · subst hc0; subst hl0
          refine ⟨A, 0, [], fun _ => [], rfl, Nat.le_refl _, by simp [maxLen], by simp, ?_, .inl rfl, fun i hi => ⟨ob, by simp at hi; subst hi; exact hH⟩⟩
          have : (ob.cells.drop off).take (0 * sz) = [] := by simp
          rw [this]
          exact ⟨rfl, fun k hk => (by simp at hk), fun x hx => (by cases hx), List.nodup_nil, fun _ k hk => (by simp at hk), fun c hc => (by cases hc)⟩
        · obtain ⟨arr, e, fr, fp0, hblk, hfz, hal, hcells, h1, hF⟩ := m.ob id ob _ hH hJ
          have hnF := m.nd id ob hH
          rw [hF] at hnF
          obtain ⟨hbn, hnF'⟩ := List.nodup_cons.1 hnF
          obtain ⟨n1, n2⟩ := nodup_fm.1 hnF'
          have hlen : ((ob.cells.drop off).take (len * sz)).length = len * sz := by simp; omega
          refine ⟨_, c, (List.range (len * sz)).map fun j => arr.getD (off + j) Go.undef, fun k => fp0 (off + k), rfl, hlc, hcm, by simp, ⟨by simp; omega, fun k hk hk' => ?_, fun x hx => ?_, ?_, fun hu k hk => ?_, fun c hc => ?_⟩, .inr ⟨_, rfl, fun j x hx => ?_⟩, fun i hi => ⟨ob, by simp at hi; subst hi; exact hH⟩⟩
          · obtain ⟨q1, q2⟩ := take_drop_at hk
            simp only [List.getElem_map, List.getElem_range]
            rw [q2 q1]
            exact hcells (off + k) q1
          · obtain ⟨k, hk, rfl⟩ := List.mem_map.1 hx
            exact h1 (off + k) (by have := List.mem_range.1 hk; omega)
          · rw [hlen]
            exact nodup_fm.2 ⟨fun k hk => n1 _ (by omega), fun i j hij hj => n2 _ _ (by omega) (by omega)⟩
          · rw [List.any_eq_false] at hu
            obtain ⟨q1, q2⟩ := take_drop_at hk
            have hx := hu _ (List.getElem_mem hk)
            rw [q2 q1] at hx
            exact (hcells (off + k) q1).flat (by simpa using hx) (h1 _ q1)
          · obtain ⟨k, hk, hc⟩ := mem_fm.1 hc
            exact ⟨id, ob, by simp, hH, by rw [hF]; exact List.mem_cons_of_mem _ (mem_fm.2 ⟨off + k, by omega, hc⟩)⟩
          · obtain ⟨hj', rfl⟩ := List.getElem?_eq_some_iff.1 hx
            have hj'' : j < len * sz := by simpa using hj'
            simp only [List.getElem_map, List.getElem_range, addr_add]
            exact cell_at hblk (by omega)
      · cases h
    · cases h
  · cases h

theorem bytesV_len (s : ByteArray) : (bytesV s).length = s.size := by
  unfold bytesV
  rw [List.length_map, Array.length_toList]
  rfl
theorem byteCells_eq (s : ByteArray) (k : Nat) (h1 : k < (bytesV s).length) (h2 : k < (byteCells s).length) : ∃ c : UInt8, (bytesV s)[k] = .int .u8 c.toNat ∧ (byteCells s)[k] = .int .u8 c.toNat := by
  refine ⟨s.data.toList[k]'(by simpa [bytesV] using h1), ?_, ?_⟩
  · simp [bytesV]
  · simp [byteCells]

/-- What is appended. -/
theorem news_sound (m : MR B H w g) {sz : Nat} (h0 : 0 < sz) {t t2 e : TypeId} {x : V} {y : Value} {cs : List V} {n : Nat} {ids : List Nat} (hu : P.underlying t = some (.slice e))
    (h : (match x with
      | .str y => if sz = 1 ∧ isStrT (P.underlying t2) = true then some (bytesV y, y.size, []) else none
      | x => match segV H sz x, lenV x with
        | some (cs, ids), some n => if t2 = t then some (cs, n, ids) else none
        | _, _ => none) = some (cs, n, ids)) (hx : VR w g.S g.J H x y) :
    ∃ (xs : List Value) (fp : Nat → List Nat), Src P sz t2 y n xs w ∧ Seg H w g cs xs fp ids ∧ (∀ id, id ∈ ids → ∃ ob, H id = some ob) := by
  split at h
  · rename_i s
    split at h
    · rename_i hc
      simp only [Option.some.injEq, Prod.mk.injEq] at h
      obtain ⟨rfl, rfl, rfl⟩ := h
      obtain ⟨rfl, hs⟩ := hc
      obtain rfl := hx.str_inv
      have hu2 : P.underlying t2 = some .string := by
        unfold isStrT at hs
        split at hs
        · assumption
        · cases hs
      refine ⟨byteCells s, fun _ => [], Src.ofString w hu2 s, ⟨by rw [bytesV_len, byteCells_length], fun k hk hk' => ?_, (Src.ofString w hu2 s).one, by rw [fm_nil]; exact List.nodup_nil, fun _ _ _ => rfl, fun c hc => by rw [fm_nil] at hc; cases hc⟩, fun id hid => by cases hid⟩
      obtain ⟨c, e1, e2⟩ := byteCells_eq s k hk hk'
      rw [e1, e2]
      exact .inl ⟨int_of, rfl⟩
    · cases h
  · split at h
    · rename_i cs0 ids0 n0 hseg hlen
      split at h
      · rename_i ht
        subst ht
        simp only [Option.some.injEq, Prod.mk.injEq] at h
        obtain ⟨rfl, rfl, rfl⟩ := h
        obtain ⟨A, c, xs, fp, rfl, hnc, hcm, hxl, hsg, hA, hid⟩ := seg_sound m h0 hseg hlen hx
        refine ⟨xs, fp, ?_, hsg, hid⟩
        cases A with
        | some a =>
          refine Src.ofSlice w hu a _ c xs hxl (fun j u hj => ?_) hsg.one
          rcases hA with hA | ⟨a', ha', hc⟩
          · subst hA
            have : xs = [] := List.eq_nil_of_length_eq_zero (by omega)
            subst this
            simp at hj
          · injection ha' with ha'
            subst ha'
            exact hc j u hj
        | none =>
          rcases hA with hA | ⟨a', ha', _⟩
          · subst hA
            have : xs = [] := List.eq_nil_of_length_eq_zero (by omega)
            subst this
            exact Src.ofNil w hu c
          · cases ha'
      · cases h
    · cases h

theorem grown_ge (w : World) (need old : Nat) (e : TypeId) : need ≤ grownCap w need old e := by
  simp only [grownCap, Question.cut]; omega

theorem isr {α : Type} {arr : Array α} {l : List α} {r : Array α} {k : Nat} {d : α} (h : arr = l.toArray ++ r) (hk : k < l.length) : arr.getD k d = l[k] := by
  subst h
  have : k < (l.toArray ++ r).size := by simp; omega
  simp only [Array.getD, this, dif_pos, Array.getInternal_eq_getElem]
  rw [Array.getElem_append_left (by simpa using hk)]
  simp

theorem append_sound (m : MR B H w g) (hb0 : g.J b = none) {t t2 ty : TypeId} {s x : V} {sv y : Value} {d : D} (h : appendD P H b t t2 s x = some d) (hs : VR w g.S g.J H s sv) (hx : VR w g.S g.J H x y) :
    ∃ z w' g', (Builtin.append_ #[t, t2] ty #[sv, y]).run P w = .ok z w' ∧ Out B H w g b d z w' g' := by
  unfold appendD at h
  split at h
  · cases h
  · rename_i e sz bytes hap
    obtain ⟨hu, i, zv, hi, hz, rfl, rfl, hzs, hsz, hby⟩ := ap_und hap
    simp only at h
    split at h
    · cases h
    · rename_i cs n ids hnews
      obtain ⟨xs, fp, hsrc, hseg, hids⟩ := news_sound m hsz hu hnews hx
      have hxl : xs.length = n * i.size := hsrc.newsLen
      split at h
      · cases h
      · rename_i hlv
        -- the objects that are given away own all that is appended
        have hgone : ∀ c, c ∈ (List.range cs.length).flatMap fp → ∃ id ob, id ∈ (goneOf cs ids) ∧ H id = some ob ∧ 1 ≤ ob.lv ∧ c ∈ g.F id := fun c hc => by
          obtain ⟨id, ob, h1, h2, h3⟩ := hseg.own c hc
          cases hany : cs.any hasU with
          | false =>
            obtain ⟨k, hk, hc⟩ := mem_fm.1 hc
            rw [hseg.flat hany k hk] at hc; cases hc
          | true =>
            simp only [goneOf, hany, if_true] at hlv ⊢
            have : ids.all (fun i => decide (1 ≤ lvO H i)) = true := by simpa only [Bool.not_eq_false] using hlv
            have := List.all_eq_true.1 this id h1
            simp only [decide_eq_true_eq, lvO, h2] at this
            exact ⟨id, ob, h1, h2, this, h3⟩
        have hxat : ∀ {arr : Array Value} {r : Array Value}, arr = xs.toArray ++ r → ∀ k (hk : k < cs.length), CR w g.S g.J H cs[k] (arr.getD k Go.undef) (fp k) ∧ (arr.getD k Go.undef).oneCell' = true := fun {arr r} ha k hk => by
          rw [isr ha (by rw [← hseg.len]; exact hk)]
          exact ⟨hseg.cr k hk (by rw [← hseg.len]; exact hk), hseg.one _ (List.getElem_mem _)⟩
        split at h
        · -- onto nothing
          split at h
          · rename_i hfit
            simp only [Option.some.injEq] at h
            subst h
            obtain ⟨A, rfl⟩ := hs.nils_inv
            by_cases hn : n = 0
            · subst hn
              have hx0 : xs = [] := List.eq_nil_of_length_eq_zero (by omega)
              subst hx0
              have hc0 : cs = [] := List.eq_nil_of_length_eq_zero (by rw [hseg.len]; rfl)
              subst hc0
              have hrun := run_append_nothing w t t2 ty e i hu hi A 0 0 (Nat.le_refl _) y hsrc
              obtain ⟨r1, r2⟩ := m.put0 (x := b) (gone := []) (ob' := ⟨0, 2, i.size, []⟩) (jo' := none) (F' := []) (w' := w) rfl rfl rfl (Nat.le_refl _) (fun _ _ => rfl) (fun _ _ => .inl rfl) (fun h => absurd hb0 h) (fun _ => ⟨rfl, rfl⟩) List.nodup_nil
                (fun _ b h => by cases h) (fun _ _ b h => by cases h) (fun b h => by cases h) (fun _ _ _ _ _ b h => by cases h)
              refine ⟨_, w, ⟨upd g.J b (some none), g.S, upd g.F b []⟩, hrun, ⟨.sl (by show upd g.J b (some none) b ≠ none; rw [upd_same]; simp) (Nat.le_refl _) (by simp [maxLen]) (.inl rfl) fun ob h => ?_, r1, r2, fun id hid => ?_⟩⟩
              · have h' : (appW H (([].map fun i => (i, (none : Option Ob))) ++ [(b, some ⟨0, 2, i.size, []⟩)])) b = some ob := h
                rw [appW_put, if_pos rfl] at h'
                exact ⟨Nat.zero_le _, fun _ => .inl ⟨rfl, rfl, fun _ => upd_same ..⟩⟩
              · by_cases e : id = b
                · subst e; right; omega
                · left
                  have hid' : upd g.J b (some none) id ≠ none := hid
                  rwa [upd_ne _ _ _ _ e] at hid'
            · have h63 : n ≤ maxLen := by
                have : n ≤ n * i.bytes := Nat.le_mul_of_pos_right _ hby
                simp only [maxLen]; omega
              have hold : (Builtin.firstCells i.size 0 (.slice A 0 0)).run P w.drew = .ok ([] : List Value).toArray w.drew := by
                cases A <;> simp [Builtin.firstCells, loadCells, loadCellsFrom]
              have hnx := nextslicecap_le (need := 0 + n) (old := 0) (by omega)
              have hrun := run_append_grow_src w t t2 ty e i zv hu hi hz A 0 0 [] hold y n xs hsrc (by omega) (by simp only [maxLen] at h63; omega) (by
                have := Nat.mul_le_mul_right i.bytes hnx
                rw [Nat.zero_add] at this ⊢
                rw [Nat.mul_assoc] at this
                omega)
              simp only [List.nil_append, Nat.zero_add] at hrun
              obtain ⟨h1, h2⟩ := heap_push (w := w) (o := .cells (xs.toArray ++ Builtin.zeroCells zv.cells (grownCap w n 0 e - n)) e)
              have hsize : (xs.toArray ++ Builtin.zeroCells zv.cells (grownCap w n 0 e - n)).size = grownCap w n 0 e * i.size := by
                rw [Array.size_append, size_zeroCells, hzs]
                simp only [List.size_toArray, hxl]
                rw [← Nat.add_mul]
                congr 1
                have := grown_ge w n 0 e
                omega
              obtain ⟨g', o⟩ := Out.made (rd := ids) (gone := goneOf cs ids) (lv := 2) (sz := i.size) (w' := w.drew.alloc (.cells (xs.toArray ++ Builtin.zeroCells zv.cells (grownCap w n 0 e - n)) e)) m hb0
                (v := .sl b 0 0 n) (z := .slice (some ⟨w.heap.size, 0, none⟩) n (grownCap w n 0 e)) (cells := cs) fp rfl rfl rfl (by show (w.heap.push _).size = _; simp) h1 h2 (fun k _ h => by simp at h)
                (by rw [hsize, hseg.len, hxl]; exact Nat.mul_le_mul_right _ (grown_ge w n 0 e)) (fun k hk => (hxat rfl k hk).1) (fun k hk => (hxat rfl k hk).2) hseg.nd hgone
                (fun S' J' H' hJ hH => .sl0 hJ hH rfl (grown_ge w n 0 e) (grownCap_le_maxLen w n 0 e h63) (by have := grown_ge w n 0 e; omega) (by
                  have h3 : (w.drew.alloc (.cells (xs.toArray ++ Builtin.zeroCells zv.cells (grownCap w n 0 e - n)) e)).heap[w.heap.size]? = some (.cells (xs.toArray ++ Builtin.zeroCells zv.cells (grownCap w n 0 e - n)) e) := h2
                  simp only [bsz, h3, hsize]; exact Nat.le_refl _))
              exact ⟨_, _, g', hrun, o⟩
          · cases h
        · -- onto a slice of the frame's own
          rename_i id ver off len
          split at h
          · rename_i ob hob
            obtain ⟨hH, hver⟩ := getO_some hob
            split at h
            · rename_i hcond
              obtain ⟨rfl, c2, c3, c4, c5, c6⟩ := hcond
              simp only [Option.some.injEq] at h
              subst h
              have hgid : id ∉ (goneOf cs ids) := by
                have c6' : id ∉ ids := by simpa using c6
                unfold goneOf
                split
                · exact c6'
                · simp
              obtain ⟨A, c, rfl, hj, hlc, hcm, hA0, hp⟩ := hs.sl_inv
              have h63 : len + n ≤ maxLen := by
                have : len + n ≤ (len + n) * i.bytes := Nat.le_mul_of_pos_right _ hby
                simp only [maxLen]; omega
              have hcs : cs.length = n * i.size := by rw [hseg.len, hxl]
              have hnewlen : (ob.cells ++ cs).length = (len + n) * i.size := by rw [List.length_append, c4, hcs, Nat.add_mul]
              -- a new row
              have grow : c < len + n → ∀ (olds : List Value) (fp0 : Nat → List Nat), olds.length = len * i.size → (Builtin.firstCells i.size len (.slice A len c)).run P w.drew = .ok olds.toArray w.drew →
                  (∀ k (hk : k < ob.cells.length) (hk' : k < olds.length), CR w g.S g.J H ob.cells[k] olds[k] (fp0 k)) → (∀ v, v ∈ olds → v.oneCell' = true) → ((List.range ob.cells.length).flatMap fp0).Nodup → (∀ k, k < ob.cells.length → ∀ c, c ∈ fp0 k → c ∈ g.F id) →
                  ∃ z w' g', (Builtin.append_ #[t, t2] ty #[.slice A len c, y]).run P w = .ok z w' ∧ Out B H w g b { v := .sl id (ver + 1) 0 (len + n), rd := id :: ids, wr := ((goneOf cs ids).map fun i => (i, none)) ++ [(id, some { ob with ver := ver + 1, cells := ob.cells ++ cs })] } z w' g' := by
                intro hgc olds fp0 hol hold hcr0 hone0 hnd0 hF0
                have hnx := nextslicecap_le (need := len + n) (old := c) hgc
                have hrun := run_append_grow_src w t t2 ty e i zv hu hi hz A len c olds hold y n xs hsrc hgc (by simp only [maxLen] at h63; omega) (by
                  have := Nat.mul_le_mul_right i.bytes hnx
                  rw [Nat.mul_assoc] at this
                  omega)
                obtain ⟨h1, h2⟩ := heap_push (w := w) (o := .cells ((olds ++ xs).toArray ++ Builtin.zeroCells zv.cells (grownCap w (len + n) c e - (len + n))) e)
                have hsize : ((olds ++ xs).toArray ++ Builtin.zeroCells zv.cells (grownCap w (len + n) c e - (len + n))).size = grownCap w (len + n) c e * i.size := by
                  rw [Array.size_append, size_zeroCells, hzs]
                  simp only [List.size_toArray, List.length_append, hxl, hol]
                  rw [← Nat.add_mul, ← Nat.add_mul]
                  congr 1
                  have := grown_ge w (len + n) c e
                  omega
                let fp' : Nat → List Nat := fun k => if k < len * i.size then fp0 k else fp (k - len * i.size)
                have kind : ∀ k, k < (ob.cells ++ cs).length → (k < ob.cells.length ∧ fp' k = fp0 k) ∨ (ob.cells.length ≤ k ∧ k - ob.cells.length < cs.length ∧ fp' k = fp (k - ob.cells.length)) := fun k hk => by
                  rw [List.length_append] at hk
                  by_cases e : k < len * i.size
                  · exact .inl ⟨by omega, if_pos e⟩
                  · exact .inr ⟨by omega, by omega, by rw [c4]; exact if_neg e⟩
                have fpF : ∀ k, k < (ob.cells ++ cs).length → ∀ c, c ∈ fp' k → ∃ id2 ob2, (id2 = id ∨ id2 ∈ (goneOf cs ids)) ∧ H id2 = some ob2 ∧ 1 ≤ ob2.lv ∧ c ∈ g.F id2 := fun k hk c hc => by
                  rcases kind k hk with ⟨k1, e⟩ | ⟨k1, k2, e⟩ <;> rw [e] at hc
                  · exact ⟨id, ob, .inl rfl, hH, by omega, hF0 k k1 c hc⟩
                  · obtain ⟨i2, o2, q1, q2, q3, q4⟩ := hgone c (mem_fm.2 ⟨_, k2, hc⟩)
                    exact ⟨i2, o2, .inr q1, q2, q3, q4⟩
                have flt' : ∀ k, k < (ob.cells ++ cs).length → ∀ c, c ∈ fp' k → c < w.heap.size := fun k hk c hc => by
                  obtain ⟨i2, o2, _, q2, _, q4⟩ := fpF k hk c hc
                  exact m.flt q2 c q4
                have apart : ∀ k k2, k < ob.cells.length → k2 < cs.length → ∀ c, c ∈ fp0 k → c ∉ fp k2 := fun k k2 hk hk2 c hc hc' => by
                  obtain ⟨i2, o2, q1, q2, _, q4⟩ := hgone c (mem_fm.2 ⟨k2, hk2, hc'⟩)
                  exact m.dj id i2 ob o2 (fun e => hgid (e ▸ q1)) hH q2 c (hF0 k hk c hc) q4
                obtain ⟨n1, n2⟩ := nodup_fm.1 hnd0
                obtain ⟨m1, m2⟩ := nodup_fm.1 hseg.nd
                obtain ⟨r1, r2⟩ := m.put (x := id) (gone := goneOf cs ids) (ob' := { ob with ver := ver + 1, cells := ob.cells ++ cs }) (jo' := some w.heap.size) (F' := w.heap.size :: (List.range (ob.cells ++ cs).length).flatMap fp')
                  (w' := w.drew.alloc (.cells ((olds ++ xs).toArray ++ Builtin.zeroCells zv.cells (grownCap w (len + n) c e - (len + n))) e)) rfl rfl rfl (by show _ ≤ (w.heap.push _).size; simp) (fun b hb => bsz_of_heap (h1 b hb)) (fun b hb => .inl (h1 b hb))
                  (fun _ => ⟨ob, hH, .inl (by show ob.ver < ver + 1; omega)⟩)
                  (fun p => by
                    refine ⟨_, e, (0, 0), fp', h2, fun k _ h => (by simp at h), by show (ob.cells ++ cs).length ≤ _; rw [hsize, hnewlen]; exact Nat.mul_le_mul_right _ (grown_ge w _ c e), fun k hk => ?_, fun k hk => ?_, rfl⟩
                    · refine CR.mono p ?_ fun c hc => h1 c (flt' k hk c hc)
                      have hk2 : k < (ob.cells ++ cs).length := hk
                      have hk3 : k < (olds ++ xs).length := by rw [List.length_append, hol, hxl, ← Nat.add_mul, ← hnewlen]; exact hk
                      rw [isr rfl hk3]
                      show CR w g.S g.J H (ob.cells ++ cs)[k] (olds ++ xs)[k] (fp' k)
                      rcases kind k hk with ⟨k1, e⟩ | ⟨k1, k2, e⟩ <;> rw [e]
                      · rw [List.getElem_append_left k1, List.getElem_append_left (by omega)]
                        exact hcr0 k k1 (by omega)
                      · rw [List.getElem_append_right k1, List.getElem_append_right (by omega)]
                        simp only [hol, ← c4]
                        exact hseg.cr _ k2 (by rw [← hseg.len]; exact k2)
                    · have hk3 : k < (olds ++ xs).length := by rw [List.length_append, hol, hxl, ← Nat.add_mul, ← hnewlen]; exact hk
                      rw [isr rfl hk3]
                      rcases List.mem_append.1 (List.getElem_mem hk3) with h | h
                      · exact hone0 _ h
                      · exact hseg.one _ h)
                  (by
                    refine List.nodup_cons.2 ⟨fun h => ?_, nodup_fm.2 ⟨fun k hk => ?_, fun i j hij hj c hc hc' => ?_⟩⟩
                    · obtain ⟨k, hk, h⟩ := mem_fm.1 h
                      have := flt' k hk _ h
                      omega
                    · rcases kind k hk with ⟨k1, e⟩ | ⟨k1, k2, e⟩ <;> rw [e]
                      · exact n1 k k1
                      · exact m1 _ k2
                    · rcases kind i (by omega) with ⟨k1, e⟩ | ⟨k1, k2, e⟩ <;> rcases kind j hj with ⟨l1, f⟩ | ⟨l1, l2, f⟩ <;> rw [e] at hc <;> rw [f] at hc'
                      · exact n2 i j hij l1 c hc hc'
                      · exact apart _ _ k1 l2 c hc hc'
                      · exact apart _ _ l1 k2 c hc' hc
                      · exact m2 _ _ (by omega) l2 c hc hc')
                  (fun b hb => by injection hb with hb; left; omega)
                  (fun c hc => by
                    rcases List.mem_cons.1 hc with rfl | hc
                    · left; exact Nat.le_refl _
                    · obtain ⟨k, hk, hc⟩ := mem_fm.1 hc
                      exact .inr (fpF k hk c hc))
                refine ⟨_, _, ⟨upd g.J id (some (some w.heap.size)), g.S, upd g.F id (w.heap.size :: (List.range (ob.cells ++ cs).length).flatMap fp')⟩, hrun,
                  ⟨.sl0 (c := w.heap.size) (upd_same ..) (ob := { ob with ver := ver + 1, cells := ob.cells ++ cs }) (by show appW H _ id = _; rw [appW_put, if_pos rfl]) rfl (grown_ge w _ c e) (grownCap_le_maxLen w _ c e h63) (by have := grown_ge w (len + n) c e; omega) (by
                    have h3 : (w.drew.alloc (.cells ((olds ++ xs).toArray ++ Builtin.zeroCells zv.cells (grownCap w (len + n) c e - (len + n))) e)).heap[w.heap.size]? = some (.cells ((olds ++ xs).toArray ++ Builtin.zeroCells zv.cells (grownCap w (len + n) c e - (len + n))) e) := h2
                    simp only [bsz, h3, hsize]
                    rw [c3]; exact Nat.le_refl _), r1, r2, fun j hjj => ?_⟩⟩
                by_cases e : j = id
                · subst e; exact .inl hj
                · have hj' : upd g.J id (some (some w.heap.size)) j ≠ none := hjj
                  rw [upd_ne _ _ _ _ e] at hj'
                  exact .inl hj'
              rcases (hp ob hH).2 hver with ⟨hc0, hl0, hj0⟩ | ⟨hc1, blk, hJ, rfl, hcap⟩
              · subst hc0; subst hl0
                have hobc : ob.cells = [] := List.eq_nil_of_length_eq_zero (by rw [c4]; simp)
                by_cases hn : n = 0
                · subst hn
                  have hx0 : xs = [] := List.eq_nil_of_length_eq_zero (by omega)
                  subst hx0
                  have hc0 : cs = [] := List.eq_nil_of_length_eq_zero (by rw [hseg.len]; rfl)
                  subst hc0
                  have hrun := run_append_nothing w t t2 ty e i hu hi A 0 0 (Nat.le_refl _) y hsrc
                  obtain ⟨r1, r2⟩ := m.put0 (x := id) (gone := []) (ob' := { ob with ver := ver + 1, cells := ob.cells ++ [] }) (jo' := none) (F' := []) (w' := w) rfl rfl rfl (Nat.le_refl _) (fun _ _ => rfl) (fun _ _ => .inl rfl) (fun _ => ⟨ob, hH, .inl (by show ob.ver < ver + 1; omega)⟩)
                    (fun _ => ⟨by show ob.cells ++ [] = []; rw [hobc]; rfl, rfl⟩) List.nodup_nil (fun _ b h => by cases h) (fun _ _ b h => by cases h) (fun b h => by cases h) (fun _ _ _ _ _ b h => by cases h)
                  refine ⟨_, w, ⟨upd g.J id (some none), g.S, upd g.F id []⟩, hrun, ⟨.sl (by show upd g.J id (some none) id ≠ none; rw [upd_same]; simp) (Nat.le_refl _) (by simp [maxLen]) (.inl rfl) fun ob2 h => ?_, r1, r2, fun j hjj => ?_⟩⟩
                  · have h' : (appW H (([].map fun i => (i, (none : Option Ob))) ++ [(id, some { ob with ver := ver + 1, cells := ob.cells ++ [] })])) id = some ob2 := h
                    rw [appW_put, if_pos rfl] at h'
                    injection h' with h'
                    exact ⟨by rw [← h']; exact Nat.le_refl _, fun _ => .inl ⟨rfl, rfl, fun _ => upd_same ..⟩⟩
                  · by_cases e : j = id
                    · subst e; exact .inl hj
                    · left
                      have hj' : upd g.J id (some none) j ≠ none := hjj
                      rwa [upd_ne _ _ _ _ e] at hj'
                · refine grow (by omega) [] (fun _ => []) (by simp) ?_ (fun k hk => by rw [hobc] at hk; simp at hk) (fun v hv => by cases hv) (by rw [fm_nil]; exact List.nodup_nil) (fun k _ c hc => by cases hc)
                  cases A <;> simp [Builtin.firstCells, loadCells, loadCellsFrom]
              · obtain ⟨arr, e', fr, fp0, hblk, hfz, hal, hcells, h1, hF⟩ := m.ob id ob _ hH hJ
                have hbs : bsz w blk = arr.size := by simp only [bsz, hblk]
                rw [hbs, c3] at hcap
                rw [Nat.zero_add] at hcap
                have hle : len * i.size ≤ arr.size := by omega
                by_cases hroom : len + n ≤ c
                · have hfit : (len + n) * i.size ≤ arr.size := Nat.le_trans (Nat.mul_le_mul_right _ hroom) hcap
                  have hfit' : len * i.size + xs.length ≤ arr.size := by rw [hxl, ← Nat.add_mul]; exact hfit
                  have hrun := run_append_room_src w t t2 ty e i hu hi blk 0 len c y n xs hsrc hroom (fun j hj => by rw [cell_at hblk (by omega)]; rfl) (fun j hj => unfrozen hblk hfz (by omega))
                  rw [Nat.zero_add] at hrun
                  obtain ⟨g', hS', hJ', hm', hp'⟩ := m.write hH hJ (by omega) hgid (off := len * i.size) (v' := ver + 1) (vs := cs) (cells' := ob.cells ++ cs) (xs := xs) fp (by omega) hseg.len (by rw [hbs, hnewlen]; exact hfit) (by rw [hbs, hseg.len]; exact hfit')
                    (fun k hk ho hk2 => by rw [List.getElem_append_right (by omega)]; simp only [c4]) (fun k hk hno => by
                      have : k < ob.cells.length := by rw [List.length_append] at hk; omega
                      exact ⟨this, List.getElem_append_left this⟩)
                    (fun k hk hk' => hseg.cr k hk hk') hseg.one hseg.nd hgone
                  refine ⟨_, _, g', hrun, ⟨.sl0 (c := blk) (by rw [hJ', upd_same]) (ob := { ob with ver := ver + 1, cells := ob.cells ++ cs }) (by show appW H _ id = _; rw [appW_put, if_pos rfl]) rfl hroom hcm hc1 (by
                    obtain ⟨q1, _⟩ := heap_setCells xs (len * i.size) w arr e' fr hblk
                    simp only [bsz, q1, putA_size]
                    rw [c3]; exact hcap), hm', hp', fun j hjj => ?_⟩⟩
                  rw [hJ'] at hjj
                  by_cases e : j = id
                  · subst e; exact .inl hj
                  · rw [upd_ne _ _ _ _ e] at hjj; exact .inl hjj
                · have hnF := m.nd id ob hH
                  rw [hF] at hnF
                  obtain ⟨hbn, hnF'⟩ := List.nodup_cons.1 hnF
                  refine grow (by omega) ((List.range (len * i.size)).map fun j => arr.getD j Go.undef) fp0 (by simp) ?_ (fun k hk hk' => ?_) (fun v hv => ?_) hnF' (fun k hk c hc => by rw [hF]; exact List.mem_cons_of_mem _ (mem_fm.2 ⟨k, hk, hc⟩))
                  · have := run_loadCells (P := P) w.drew ⟨blk, 0, none⟩ (len * i.size) (fun j => arr.getD j Go.undef) fun j hj => by
                      rw [addr_add, Nat.zero_add]
                      exact cell_at (w := w.drew) hblk (by omega)
                    simp only [Builtin.firstCells, this]
                  · simp only [List.getElem_map, List.getElem_range]
                    exact hcells k hk
                  · obtain ⟨k, hk, rfl⟩ := List.mem_map.1 hv
                    exact h1 k (by have := List.mem_range.1 hk; omega)
            · cases h
          · cases h
        · cases h
end

end Go.Proofs.Ytclebbjpacpbmaa.Ev
