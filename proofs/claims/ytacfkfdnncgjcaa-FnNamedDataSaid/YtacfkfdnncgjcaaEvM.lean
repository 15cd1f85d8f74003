/- The abstract interpreter: stores, appends. appends, copies. copies, literals, conversions, built-in functions. Conditions: none. -/
import Derived.Test.YtacfkfdnncgjcaaEvJ
import Derived.Deep.Upon
section
set_option linter.unusedVariables false
set_option linter.unusedSimpArgs false
namespace Go.Proofs.Ytacfkfdnncgjcaa.Ev
open Go

section
variable {B : Beg} {H : Nat → Option Ob} {w : World} {g : Gh} {P : Program} {b : Nat}

theorem nodup_of_nodupB : ∀ {l : List Nat}, nodupB l = true → l.Nodup
  | [], _ => List.nodup_nil
  | x :: xs, h => by
    simp only [nodupB, Bool.and_eq_true, Bool.not_eq_true', List.contains_eq_mem, decide_eq_false_iff_not] at h
    exact List.nodup_cons.2 ⟨h.1, nodup_of_nodupB h.2⟩

theorem eid_lv : ∀ (k : Nat) {v u : V}, expN H k v = some u → ∀ id, id ∈ eidN H k v → ∃ ob, H id = some ob ∧ ob.lv = 2 := by
  intro k
  induction k with
  | zero => intro v u h id hid; simp [eidN] at hid
  | succ k ih =>
    intro v u h id hid
    have lst : ∀ {cs us : List V}, cs.mapM (expN H k) = some us → ∀ id, id ∈ cs.flatMap (eidN H k) → ∃ ob, H id = some ob ∧ ob.lv = 2 := fun {cs us} hm id hid => by
      obtain ⟨c, hc, hid⟩ := List.mem_flatMap.1 hid
      obtain ⟨j, hj, rfl⟩ := List.getElem_of_mem hc
      exact ih (mapM_at hm j hj (by rw [mapM_len hm]; exact hj)) id hid
    cases v with
    | sl id0 ver off len =>
      simp only [expN] at h
      simp only [eidN] at hid
      split at h
      · rename_i ob hob
        simp only [hob] at hid
        split at h
        · rename_i hc
          obtain ⟨us, hus, _⟩ := Option.map_eq_some_iff.1 h
          rcases List.mem_cons.1 hid with rfl | hid
          · exact ⟨ob, (getO_some hob).1, hc.1⟩
          · exact lst hus id hid
        · cases h
      · cases h
    | agg cs =>
      simp only [expN] at h
      simp only [eidN] at hid
      obtain ⟨us, hus, _⟩ := Option.map_eq_some_iff.1 h
      exact lst hus id hid
    | tup cs =>
      simp only [expN] at h
      simp only [eidN] at hid
      obtain ⟨us, hus, _⟩ := Option.map_eq_some_iff.1 h
      exact lst hus id hid
    | _ => simp [eidN] at hid

/-- A value on its way into a row. -/
theorem mv1 (m : MR B H w g) {v : V} {x : Value} (h : VR w g.S g.J H v x) (hn : (mvC H v).2.Nodup) : ∃ fp, CR w g.S g.J H (mvC H v).1 x fp ∧ fp.Nodup ∧ ∀ b, b ∈ fp → ∃ id ob, id ∈ (mvC H v).2 ∧ H id = some ob ∧ 1 ≤ ob.lv ∧ b ∈ g.F id := by
  have plain : mvC H v = (v, []) → ∃ fp, CR w g.S g.J H (mvC H v).1 x fp ∧ fp.Nodup ∧ ∀ b, b ∈ fp → ∃ id ob, id ∈ (mvC H v).2 ∧ H id = some ob ∧ 1 ≤ ob.lv ∧ b ∈ g.F id := fun e => by
    rw [e]; exact ⟨[], .inl ⟨h, rfl⟩, List.nodup_nil, fun b hb => by cases hb⟩
  cases v with
  | sl id ver off len =>
    cases he : expN H depth (.sl id ver off len) with
    | none => exact plain (by simp only [mvC, he])
    | some u =>
      have e : mvC H (.sl id ver off len) = (u, eidN H depth (.sl id ver off len)) := by simp only [mvC, he]
      rw [e] at hn ⊢
      obtain ⟨fp, ht, hg⟩ := exp_sound m depth h he hn
      refine ⟨fp, .inr ht, hg.1, fun b hb => ?_⟩
      obtain ⟨i, hi, hF, _⟩ := hg.2 b hb
      obtain ⟨ob, ho, hl⟩ := eid_lv depth he i hi
      exact ⟨i, ob, hi, ho, by omega, hF⟩
  | _ => exact plain rfl

theorem mv_sound (m : MR B H w g) {vs : List V} {x : Nat → Value} (h : ∀ k (hk : k < vs.length), VR w g.S g.J H vs[k] (x k)) (hn : ((vs.map (mvC H)).flatMap (·.2)).Nodup) :
    ∃ fp : Nat → List Nat, (∀ k (hk : k < vs.length), CR w g.S g.J H (mvC H vs[k]).1 (x k) (fp k)) ∧ ((List.range vs.length).flatMap fp).Nodup ∧
      ∀ b, b ∈ (List.range vs.length).flatMap fp → ∃ id ob, id ∈ (vs.map (mvC H)).flatMap (·.2) ∧ H id = some ob ∧ 1 ≤ ob.lv ∧ b ∈ g.F id := by
  obtain ⟨n1, n2⟩ := nodup_flatMap_at hn
  have H1 : ∀ j, j < vs.length → ∃ f, ∀ (hj : j < vs.length), CR w g.S g.J H (mvC H vs[j]).1 (x j) f ∧ f.Nodup ∧ ∀ b, b ∈ f → ∃ id ob, id ∈ (mvC H vs[j]).2 ∧ H id = some ob ∧ 1 ≤ ob.lv ∧ b ∈ g.F id := fun j hj => by
    have := n1 j (by simpa using hj)
    simp only [List.getElem_map] at this
    obtain ⟨f, hf⟩ := mv1 m (h j hj) this
    exact ⟨f, fun _ => hf⟩
  obtain ⟨fp, hfp⟩ := choose_fp H1
  refine ⟨fp, fun k hk => (hfp k hk hk).1, nodup_fm.2 ⟨fun k hk => (hfp k hk hk).2.1, fun i j hij hj b hb hb' => ?_⟩, fun b hb => ?_⟩
  · obtain ⟨i1, o1, hi1, e1, _, f1⟩ := (hfp i (by omega) (by omega)).2.2 b hb
    obtain ⟨i2, o2, hi2, e2, _, f2⟩ := (hfp j hj hj).2.2 b hb'
    by_cases e : i1 = i2
    · subst e
      have := n2 i j (by simp; omega) (by simpa using hj) (by omega) i1
      simp only [List.getElem_map] at this
      exact this hi1 hi2
    · exact m.dj i1 i2 o1 o2 e e1 e2 b f1 f2
  · obtain ⟨k, hk, hb⟩ := mem_fm.1 hb
    obtain ⟨id, ob, hi, he, hl, hF⟩ := (hfp k hk hk).2.2 b hb
    exact ⟨id, ob, List.mem_flatMap.2 ⟨mvC H vs[k], List.mem_map.2 ⟨_, List.getElem_mem hk, rfl⟩, hi⟩, he, hl, hF⟩

theorem unfrozen {blk k : Nat} {arr : Array Value} {e : TypeId} {fr : Nat × Nat} (hb : w.heap[blk]? = some (.cells arr e fr)) (hz : unfz arr fr) (hk : k < arr.size) : w.frozen? ⟨blk, k, none⟩ = false := by
  obtain ⟨lo, hi⟩ := fr
  have := hz k hk
  simp only [World.frozen?, hb]
  simp only at this
  rw [Bool.and_eq_false_iff]
  simp only [decide_eq_false_iff_not]
  omega

theorem run_storeAt {t : TypeId} {n blk off : Nat} {y : Value} {arr : Array Value} {e : TypeId} {fr : Nat × Nat} (hz : szT P t = some n) (hn : y.cells.size = n) (hb : w.heap[blk]? = some (.cells arr e fr)) (hf : unfz arr fr) (hfit : off + n ≤ arr.size)
    (h1 : ∀ v, v ∈ y.cells.toList → v.oneCell' = true) : (Instr.storeAt t (.pointer (some ⟨blk, off, none⟩)) y).run P w = .ok () (w.setCells blk off y.cells.toList) := by
  have hl : y.cells.toList.length = n := by simpa using hn
  have := run_storeCells_cells (P := P) blk off y.cells.toList 0 w (fun j hj => by rw [Nat.add_zero, cell_at hb (by omega)]; rfl) (fun j hj => by rw [Nat.add_zero]; exact unfrozen hb hf (by omega)) h1
  rw [Nat.add_zero] at this
  simp only [Instr.storeAt, Instr.sureAddr, storeVar, Sem.run_bind, Sem.run_pure, Result.andThen_ok, run_sizeOf' hz, Sem.run_ite, hn, ne_eq, not_true_eq_false, if_false, this]

theorem store_sound (m : MR B H w g) {t : TypeId} {a x : V} {p y : Value} {d : D} (h : storeD P B.strict H t a x = some d) (ha : VR w g.S g.J H a p) (hx : VR w g.S g.J H x y) :
    d.v = .undef ∧ ∃ w' g', (Instr.storeAt t p y).run P w = .ok () w' ∧ Out B H w g b d Go.undef w' g' := by
  unfold storeD at h
  split at h
  · rename_i n vs id ver off hz hvs
    split at h
    · rename_i ob hob
      obtain ⟨hH, hver⟩ := getO_some hob
      obtain ⟨a0, rfl, hj, hp⟩ := ha.ptr_inv
      obtain ⟨blk, hJ, rfl⟩ := (hp ob hH).2 hver
      obtain ⟨arr, e, fr, fp0, hblk, hfz, hal, hcells, h1, hF⟩ := m.ob id ob _ hH hJ
      obtain ⟨hl, hc⟩ := cells_sound hvs hx
      have hbs : bsz w blk = arr.size := by simp only [bsz, hblk]
      split at h
      · rename_i hcond
        obtain ⟨c1, c2, c3⟩ := hcond
        have hone : ∀ v, v ∈ y.cells.toList → v.oneCell' = true := fun v hv => by
          obtain ⟨k, hk, rfl⟩ := List.getElem_of_mem hv
          have hk' : k < vs.length := by rw [hl]; simpa using hk
          have := (hc k hk').2
          have e : y.cells.getD k Go.undef = y.cells.toList[k] := by
            have : k < y.cells.size := by simpa using hk
            simp [Array.getD, this]
          rwa [e] at this
        have hrun := run_storeAt (P := P) (w := w) (t := t) (y := y) hz (by omega) hblk hfz (off := off) (by omega) hone
        have hget : ∀ k (hk : k < vs.length) (hk' : k < y.cells.toList.length), y.cells.getD k Go.undef = y.cells.toList[k] := fun k hk hk' => by
          have : k < y.cells.size := by simpa using hk'
          simp [Array.getD, this]
        have conclude : ∀ (gone : List Nat) (vs' : List V) (fp : Nat → List Nat) (rd : List Nat), id ∉ gone → vs'.length = vs.length → (∀ k (hk : k < vs'.length) (hk' : k < vs.length), CR w g.S g.J H vs'[k] (y.cells.getD k Go.undef) (fp k)) →
            ((List.range vs.length).flatMap fp).Nodup → (∀ c, c ∈ (List.range vs.length).flatMap fp → ∃ id ob, id ∈ gone ∧ H id = some ob ∧ 1 ≤ ob.lv ∧ c ∈ g.F id) →
            ∃ w' g', (Instr.storeAt t (.pointer (some ⟨blk, off, none⟩)) y).run P w = .ok () w' ∧ Out B H w g b { v := .undef, rd := rd, wr := (gone.map fun i => (i, none)) ++ [(id, some { ob with cells := setCs ob.cells off vs' })] } Go.undef w' g' := by
          intro gone vs' fp rd hg hlen hcr hn hf
          have hsl : (setCs ob.cells off vs').length = ob.cells.length := setCs_len (by omega)
          obtain ⟨g', hS, hJ', hm, hp'⟩ := m.write hH hJ c3 hg (off := off) (v' := ob.ver) (vs := vs') (cells' := setCs ob.cells off vs') (xs := y.cells.toList) fp (Nat.le_refl _) (by simp; omega) (by rw [hsl, hbs]; exact hal) (by rw [hbs]; omega)
            (fun k hk ho hk2 => setCs_in (by omega) hk ho hk2) (fun k hk hno => setCs_out (by omega) hk hno)
            (fun k hk hk' => by rw [← hget k (by omega) hk']; exact hcr k hk (by omega)) hone (by rw [hlen]; exact hn) (by rw [hlen]; exact hf)
          refine ⟨_, g', hrun, ⟨.pure .undef, hm, hp', fun i hi => ?_⟩⟩
          rw [hJ'] at hi
          by_cases e : i = id
          · subst e; exact .inl hj
          · rw [upd_ne _ _ _ _ e] at hi; exact .inl hi
        split at h
        · rename_i hlv
          simp only at h
          split at h
          · rename_i hg
            simp only [Option.some.injEq] at h
            subst h
            simp only [Bool.and_eq_true, Bool.not_eq_true', List.contains_eq_mem, decide_eq_false_iff_not] at hg
            obtain ⟨fp, q1, q2, q3⟩ := mv_sound m (fun k hk => (hc k hk).1) (nodup_of_nodupB hg.1)
            refine ⟨rfl, ?_⟩
            have := conclude ((vs.map (mvC H)).flatMap (·.2)) ((vs.map (mvC H)).map (·.1)) fp (id :: (vs.map (mvC H)).flatMap (·.2)) hg.2 (by simp) (fun k hk hk' => by simpa using q1 k hk') q2 q3
            obtain ⟨w', g', a1, a2⟩ := this
            exact ⟨w', g', a1, a2.okd _⟩
          · cases h
        · simp only [Option.some.injEq] at h
          subst h
          refine ⟨rfl, ?_⟩
          have := conclude [] vs (fun _ => []) [id] (by simp) rfl (fun k hk hk' => .inl ⟨(hc k hk).1, rfl⟩) (by rw [fm_nil]; exact List.nodup_nil) (fun c hc => by rw [fm_nil] at hc; cases hc)
          exact this
      · cases h
    · cases h
  · cases h
end

end Go.Proofs.Ytacfkfdnncgjcaa.Ev
end

section
set_option linter.unusedVariables false
set_option linter.unusedSimpArgs false
namespace Go.Proofs.Ytacfkfdnncgjcaa.Ev
open Go

section
variable {B : Beg} {H : Nat → Option Ob} {w : World} {g : Gh} {P : Program} {b : Nat}

theorem ap_und {t e : TypeId} {sz bytes : Nat} (h : apT P t = some (e, sz, bytes)) : P.underlying t = some (.slice e) ∧ ∃ i z, P.info? e = some i ∧ i.zero = some z ∧ i.size = sz ∧ i.bytes = bytes ∧ z.cells.size = sz ∧ 0 < sz ∧ 0 < bytes := by
  unfold apT at h
  split at h
  · rename_i e0 sz0 by0 hs
    split at h
    · rename_i z hz
      split at h
      · cases h
      · rename_i hc
        simp only [Option.some.injEq, Prod.mk.injEq] at h
        obtain ⟨rfl, rfl, rfl⟩ := h
        obtain ⟨hu, i, hi, h1, h2⟩ := sl_und hs
        obtain ⟨i', hi', hz⟩ := Option.bind_eq_some_iff.1 hz
        rw [hi] at hi'
        injection hi' with hi'
        subst hi'
        simp only [not_or, Classical.not_not, ne_eq] at hc
        exact ⟨hu, i, z, hi, hz, h1, h2, hc.2.2, by omega, by omega⟩
    · cases h
  · cases h

/-- What is read of a slice: its cells as values, and what they own. -/
structure Seg (H : Nat → Option Ob) (w : World) (g : Gh) (cs : List V) (xs : List Value) (fp : Nat → List Nat) (ids : List Nat) : Prop where
  len : cs.length = xs.length
  cr : ∀ k (hk : k < cs.length) (hk' : k < xs.length), CR w g.S g.J H cs[k] xs[k] (fp k)
  one : ∀ x, x ∈ xs → x.oneCell' = true
  nd : ((List.range cs.length).flatMap fp).Nodup
  flat : cs.any hasU = false → ∀ k, k < cs.length → fp k = []
  own : ∀ c, c ∈ (List.range cs.length).flatMap fp → ∃ id ob, id ∈ ids ∧ H id = some ob ∧ c ∈ g.F id

theorem Seg.nil : Seg H w g [] [] (fun _ => []) [] := ⟨rfl, fun k hk => (by simp at hk), fun x hx => (by cases hx), List.nodup_nil, fun _ k hk => (by simp at hk), fun c hc => (by cases hc)⟩

/-- A slice, read whole. -/
theorem seg_sound (m : MR B H w g) {sz n : Nat} (h0 : 0 < sz) {v : V} {y : Value} {cs : List V} {ids : List Nat} (h : segV H sz v = some (cs, ids)) (hl : lenV v = some n) (hv : VR w g.S g.J H v y) :
    ∃ (A : Option Addr) (c : Nat) (xs : List Value) (fp : Nat → List Nat), y = .slice A n c ∧ n ≤ c ∧ c ≤ maxLen ∧ xs.length = n * sz ∧ Seg H w g cs xs fp ids ∧ (n = 0 ∨ ∃ a, A = some a ∧ ∀ j x, xs[j]? = some x → w.cell? (a.add j) = some x) ∧ (∀ id, id ∈ ids → ∃ ob, H id = some ob) := by
  unfold segV at h
  split at h
  · simp only [Option.some.injEq, Prod.mk.injEq] at h
    obtain ⟨rfl, rfl⟩ := h
    simp only [lenV, Option.some.injEq] at hl
    subst hl
    obtain ⟨A, rfl⟩ := hv.nils_inv
    exact ⟨A, 0, [], fun _ => [], rfl, Nat.le_refl _, by simp [maxLen], by simp, .nil, .inl rfl, fun id hid => by cases hid⟩
  · rename_i n0 cs0
    split at h
    · rename_i hfit
      simp only [Option.some.injEq, Prod.mk.injEq] at h
      obtain ⟨rfl, rfl⟩ := h
      simp only [lenV, Option.some.injEq] at hl
      subst hl
      obtain ⟨A, c, f, rfl, hA, hn, hm, hp, h1⟩ := hv.list_inv
      have hlen : (cs0.take (n0 * sz)).length = n0 * sz := by simp; omega
      refine ⟨A, c, (List.range (n0 * sz)).map f, fun _ => [], rfl, hn, hm, by simp, ⟨by simp; omega, fun k hk hk' => ?_, fun x hx => ?_, by rw [fm_nil]; exact List.nodup_nil, fun _ _ _ => rfl, fun c hc => by rw [fm_nil] at hc; cases hc⟩, ?_, fun id hid => by cases hid⟩
      · simp only [List.getElem_take, List.getElem_map, List.getElem_range]
        exact .inl ⟨.pure (hp k (by omega)), rfl⟩
      · obtain ⟨k, hk, rfl⟩ := List.mem_map.1 hx
        exact h1 k (by have := List.mem_range.1 hk; omega)
      · rcases hA with hA | ⟨a, rfl, hS, hc⟩
        · subst hA
          left
          have : n0 * sz = 0 := by simpa using hfit
          rcases Nat.mul_eq_zero.1 this with h | h <;> omega
        · refine .inr ⟨a, rfl, fun j x hx => ?_⟩
          obtain ⟨hj, rfl⟩ := List.getElem?_eq_some_iff.1 hx
          have hj' : j < n0 * sz := by simpa using hj
          simp only [List.getElem_map, List.getElem_range]
          exact hc j (by omega)
    · cases h
  · rename_i id ver off len
    split at h
    · rename_i ob hob
      obtain ⟨hH, hver⟩ := getO_some hob
      split at h
      · rename_i hfit
        simp only [Option.some.injEq, Prod.mk.injEq] at h
        obtain ⟨rfl, rfl⟩ := h
        simp only [lenV, Option.some.injEq] at hl
        subst hl
        obtain ⟨A, c, rfl, hj, hlc, hcm, hA0, hv'⟩ := hv.sl_inv
        rcases (hv' ob hH).2 hver with ⟨hc0, hl0, hj0⟩ | ⟨hc1, blk, hJ, rfl, hcap⟩
        · subst hc0; subst hl0
          refine ⟨A, 0, [], fun _ => [], rfl, Nat.le_refl _, by simp [maxLen], by simp, ?_, .inl rfl, fun i hi => ⟨ob, by simp at hi; subst hi; exact hH⟩⟩
          have : (ob.cells.drop off).take (0 * sz) = [] := by simp
          rw [this]
          exact ⟨rfl, fun k hk => (by simp at hk), fun x hx => (by cases hx), List.nodup_nil, fun _ k hk => (by simp at hk), fun c hc => (by cases hc)⟩
        · obtain ⟨arr, e, fr, fp0, hblk, hfz, hal, hcells, h1, hF⟩ := m.ob id ob _ hH hJ
          have hnF := m.nd id ob hH
          rw [hF] at hnF
          obtain ⟨hbn, hnF'⟩ := List.nodup_cons.1 hnF
          obtain ⟨n1, n2⟩ := nodup_fm.1 hnF'
          have hlen : ((ob.cells.drop off).take (len * sz)).length = len * sz := by simp; omega
          refine ⟨_, c, (List.range (len * sz)).map fun j => arr.getD (off + j) Go.undef, fun k => fp0 (off + k), rfl, hlc, hcm, by simp, ⟨by simp; omega, fun k hk hk' => ?_, fun x hx => ?_, ?_, fun hu k hk => ?_, fun c hc => ?_⟩, .inr ⟨_, rfl, fun j x hx => ?_⟩, fun i hi => ⟨ob, by simp at hi; subst hi; exact hH⟩⟩
          · obtain ⟨q1, q2⟩ := take_drop_at hk
            simp only [List.getElem_map, List.getElem_range]
            rw [q2 q1]
            exact hcells (off + k) q1
          · obtain ⟨k, hk, rfl⟩ := List.mem_map.1 hx
            exact h1 (off + k) (by have := List.mem_range.1 hk; omega)
          · rw [hlen]
            exact nodup_fm.2 ⟨fun k hk => n1 _ (by omega), fun i j hij hj => n2 _ _ (by omega) (by omega)⟩
          · rw [List.any_eq_false] at hu
            obtain ⟨q1, q2⟩ := take_drop_at hk
            have hx := hu _ (List.getElem_mem hk)
            rw [q2 q1] at hx
            exact (hcells (off + k) q1).flat (by simpa using hx) (h1 _ q1)
          · obtain ⟨k, hk, hc⟩ := mem_fm.1 hc
            exact ⟨id, ob, by simp, hH, by rw [hF]; exact List.mem_cons_of_mem _ (mem_fm.2 ⟨off + k, by omega, hc⟩)⟩
          · obtain ⟨hj', rfl⟩ := List.getElem?_eq_some_iff.1 hx
            have hj'' : j < len * sz := by simpa using hj'
            simp only [List.getElem_map, List.getElem_range, addr_add]
            exact cell_at hblk (by omega)
      · cases h
    · cases h
  · cases h

theorem bytesV_len (s : ByteArray) : (bytesV s).length = s.size := by
  unfold bytesV
  rw [List.length_map, Array.length_toList]
  rfl
theorem byteCells_eq (s : ByteArray) (k : Nat) (h1 : k < (bytesV s).length) (h2 : k < (byteCells s).length) : ∃ c : UInt8, (bytesV s)[k] = .int .u8 c.toNat ∧ (byteCells s)[k] = .int .u8 c.toNat := by
  refine ⟨s.data.toList[k]'(by simpa [bytesV] using h1), ?_, ?_⟩
  · simp [bytesV]
  · simp [byteCells]

/-- What is appended. -/
theorem news_sound (m : MR B H w g) {sz : Nat} (h0 : 0 < sz) {t t2 e : TypeId} {x : V} {y : Value} {cs : List V} {n : Nat} {ids : List Nat} (hu : P.underlying t = some (.slice e))
    (h : (match x with
      | .str y => if sz = 1 ∧ isStrT (P.underlying t2) = true then some (bytesV y, y.size, []) else none
      | x => match segV H sz x, lenV x with
        | some (cs, ids), some n => if t2 = t then some (cs, n, ids) else none
        | _, _ => none) = some (cs, n, ids)) (hx : VR w g.S g.J H x y) :
    ∃ (xs : List Value) (fp : Nat → List Nat), Src P sz t2 y n xs w ∧ Seg H w g cs xs fp ids ∧ (∀ id, id ∈ ids → ∃ ob, H id = some ob) := by
  split at h
  · rename_i s
    split at h
    · rename_i hc
      simp only [Option.some.injEq, Prod.mk.injEq] at h
      obtain ⟨rfl, rfl, rfl⟩ := h
      obtain ⟨rfl, hs⟩ := hc
      obtain rfl := hx.str_inv
      have hu2 : P.underlying t2 = some .string := by
        unfold isStrT at hs
        split at hs
        · assumption
        · cases hs
      refine ⟨byteCells s, fun _ => [], Src.ofString w hu2 s, ⟨by rw [bytesV_len, byteCells_length], fun k hk hk' => ?_, (Src.ofString w hu2 s).one, by rw [fm_nil]; exact List.nodup_nil, fun _ _ _ => rfl, fun c hc => by rw [fm_nil] at hc; cases hc⟩, fun id hid => by cases hid⟩
      obtain ⟨c, e1, e2⟩ := byteCells_eq s k hk hk'
      rw [e1, e2]
      exact .inl ⟨int_of, rfl⟩
    · cases h
  · split at h
    · rename_i cs0 ids0 n0 hseg hlen
      split at h
      · rename_i ht
        subst ht
        simp only [Option.some.injEq, Prod.mk.injEq] at h
        obtain ⟨rfl, rfl, rfl⟩ := h
        obtain ⟨A, c, xs, fp, rfl, hnc, hcm, hxl, hsg, hA, hid⟩ := seg_sound m h0 hseg hlen hx
        refine ⟨xs, fp, ?_, hsg, hid⟩
        cases A with
        | some a =>
          refine Src.ofSlice w hu a _ c xs hxl (fun j u hj => ?_) hsg.one
          rcases hA with hA | ⟨a', ha', hc⟩
          · subst hA
            have : xs = [] := List.eq_nil_of_length_eq_zero (by omega)
            subst this
            simp at hj
          · injection ha' with ha'
            subst ha'
            exact hc j u hj
        | none =>
          rcases hA with hA | ⟨a', ha', _⟩
          · subst hA
            have : xs = [] := List.eq_nil_of_length_eq_zero (by omega)
            subst this
            exact Src.ofNil w hu c
          · cases ha'
      · cases h
    · cases h

theorem grown_ge (w : World) (need old : Nat) (e : TypeId) : need ≤ grownCap w need old e := by
  simp only [grownCap, Question.cut]; omega

theorem isr {α : Type} {arr : Array α} {l : List α} {r : Array α} {k : Nat} {d : α} (h : arr = l.toArray ++ r) (hk : k < l.length) : arr.getD k d = l[k] := by
  subst h
  have : k < (l.toArray ++ r).size := by simp; omega
  simp only [Array.getD, this, dif_pos, Array.getInternal_eq_getElem]
  rw [Array.getElem_append_left (by simpa using hk)]
  simp

theorem append_sound (m : MR B H w g) (hb0 : g.J b = none) {t t2 ty : TypeId} {s x : V} {sv y : Value} {d : D} (h : appendD P H b t t2 s x = some d) (hs : VR w g.S g.J H s sv) (hx : VR w g.S g.J H x y) :
    ∃ z w' g', (Builtin.append_ #[t, t2] ty #[sv, y]).run P w = .ok z w' ∧ Out B H w g b d z w' g' := by
  unfold appendD at h
  split at h
  · cases h
  · rename_i e sz bytes hap
    obtain ⟨hu, i, zv, hi, hz, rfl, rfl, hzs, hsz, hby⟩ := ap_und hap
    simp only at h
    split at h
    · cases h
    · rename_i cs n ids hnews
      obtain ⟨xs, fp, hsrc, hseg, hids⟩ := news_sound m hsz hu hnews hx
      have hxl : xs.length = n * i.size := hsrc.newsLen
      split at h
      · cases h
      · rename_i hlv
        -- the objects that are given away own all that is appended
        have hgone : ∀ c, c ∈ (List.range cs.length).flatMap fp → ∃ id ob, id ∈ (goneOf cs ids) ∧ H id = some ob ∧ 1 ≤ ob.lv ∧ c ∈ g.F id := fun c hc => by
          obtain ⟨id, ob, h1, h2, h3⟩ := hseg.own c hc
          cases hany : cs.any hasU with
          | false =>
            obtain ⟨k, hk, hc⟩ := mem_fm.1 hc
            rw [hseg.flat hany k hk] at hc; cases hc
          | true =>
            simp only [goneOf, hany, if_true] at hlv ⊢
            have : ids.all (fun i => decide (1 ≤ lvO H i)) = true := by simpa only [Bool.not_eq_false] using hlv
            have := List.all_eq_true.1 this id h1
            simp only [decide_eq_true_eq, lvO, h2] at this
            exact ⟨id, ob, h1, h2, this, h3⟩
        have hxat : ∀ {arr : Array Value} {r : Array Value}, arr = xs.toArray ++ r → ∀ k (hk : k < cs.length), CR w g.S g.J H cs[k] (arr.getD k Go.undef) (fp k) ∧ (arr.getD k Go.undef).oneCell' = true := fun {arr r} ha k hk => by
          rw [isr ha (by rw [← hseg.len]; exact hk)]
          exact ⟨hseg.cr k hk (by rw [← hseg.len]; exact hk), hseg.one _ (List.getElem_mem _)⟩
        split at h
        · -- onto nothing
          split at h
          · rename_i hfit
            simp only [Option.some.injEq] at h
            subst h
            obtain ⟨A, rfl⟩ := hs.nils_inv
            by_cases hn : n = 0
            · subst hn
              have hx0 : xs = [] := List.eq_nil_of_length_eq_zero (by omega)
              subst hx0
              have hc0 : cs = [] := List.eq_nil_of_length_eq_zero (by rw [hseg.len]; rfl)
              subst hc0
              have hrun := run_append_nothing w t t2 ty e i hu hi A 0 0 (Nat.le_refl _) y hsrc
              obtain ⟨r1, r2⟩ := m.put0 (x := b) (gone := []) (ob' := ⟨0, 2, i.size, []⟩) (jo' := none) (F' := []) (w' := w) rfl rfl rfl (Nat.le_refl _) (fun _ _ => rfl) (fun _ _ => .inl rfl) (fun h => absurd hb0 h) (fun _ => ⟨rfl, rfl⟩) List.nodup_nil
                (fun _ b h => by cases h) (fun _ _ b h => by cases h) (fun b h => by cases h) (fun _ _ _ _ _ b h => by cases h)
              refine ⟨_, w, ⟨upd g.J b (some none), g.S, upd g.F b []⟩, hrun, ⟨.sl (by show upd g.J b (some none) b ≠ none; rw [upd_same]; simp) (Nat.le_refl _) (by simp [maxLen]) (.inl rfl) fun ob h => ?_, r1, r2, fun id hid => ?_⟩⟩
              · have h' : (appW H (([].map fun i => (i, (none : Option Ob))) ++ [(b, some ⟨0, 2, i.size, []⟩)])) b = some ob := h
                rw [appW_put, if_pos rfl] at h'
                exact ⟨Nat.zero_le _, fun _ => .inl ⟨rfl, rfl, fun _ => upd_same ..⟩⟩
              · by_cases e : id = b
                · subst e; right; omega
                · left
                  have hid' : upd g.J b (some none) id ≠ none := hid
                  rwa [upd_ne _ _ _ _ e] at hid'
            · have h63 : n ≤ maxLen := by
                have : n ≤ n * i.bytes := Nat.le_mul_of_pos_right _ hby
                simp only [maxLen]; omega
              have hold : (Builtin.firstCells i.size 0 (.slice A 0 0)).run P w.drew = .ok ([] : List Value).toArray w.drew := by
                cases A <;> simp [Builtin.firstCells, loadCells, loadCellsFrom]
              have hnx := nextslicecap_le (need := 0 + n) (old := 0) (by omega)
              have hrun := run_append_grow_src w t t2 ty e i zv hu hi hz A 0 0 [] hold y n xs hsrc (by omega) (by simp only [maxLen] at h63; omega) (by
                have := Nat.mul_le_mul_right i.bytes hnx
                rw [Nat.zero_add] at this ⊢
                rw [Nat.mul_assoc] at this
                omega)
              simp only [List.nil_append, Nat.zero_add] at hrun
              obtain ⟨h1, h2⟩ := heap_push (w := w) (o := .cells (xs.toArray ++ Builtin.zeroCells zv.cells (grownCap w n 0 e - n)) e)
              have hsize : (xs.toArray ++ Builtin.zeroCells zv.cells (grownCap w n 0 e - n)).size = grownCap w n 0 e * i.size := by
                rw [Array.size_append, size_zeroCells, hzs]
                simp only [List.size_toArray, hxl]
                rw [← Nat.add_mul]
                congr 1
                have := grown_ge w n 0 e
                omega
              obtain ⟨g', o⟩ := Out.made (rd := ids) (gone := goneOf cs ids) (lv := 2) (sz := i.size) (w' := w.drew.alloc (.cells (xs.toArray ++ Builtin.zeroCells zv.cells (grownCap w n 0 e - n)) e)) m hb0
                (v := .sl b 0 0 n) (z := .slice (some ⟨w.heap.size, 0, none⟩) n (grownCap w n 0 e)) (cells := cs) fp rfl rfl rfl (by show (w.heap.push _).size = _; simp) h1 h2 (fun k _ h => by simp at h)
                (by rw [hsize, hseg.len, hxl]; exact Nat.mul_le_mul_right _ (grown_ge w n 0 e)) (fun k hk => (hxat rfl k hk).1) (fun k hk => (hxat rfl k hk).2) hseg.nd hgone
                (fun S' J' H' hJ hH => .sl0 hJ hH rfl (grown_ge w n 0 e) (grownCap_le_maxLen w n 0 e h63) (by have := grown_ge w n 0 e; omega) (by
                  have h3 : (w.drew.alloc (.cells (xs.toArray ++ Builtin.zeroCells zv.cells (grownCap w n 0 e - n)) e)).heap[w.heap.size]? = some (.cells (xs.toArray ++ Builtin.zeroCells zv.cells (grownCap w n 0 e - n)) e) := h2
                  simp only [bsz, h3, hsize]; exact Nat.le_refl _))
              exact ⟨_, _, g', hrun, o⟩
          · cases h
        · -- onto a slice of the frame's own
          rename_i id ver off len
          split at h
          · rename_i ob hob
            obtain ⟨hH, hver⟩ := getO_some hob
            split at h
            · rename_i hcond
              obtain ⟨rfl, c2, c3, c4, c5, c6⟩ := hcond
              simp only [Option.some.injEq] at h
              subst h
              have hgid : id ∉ (goneOf cs ids) := by
                have c6' : id ∉ ids := by simpa using c6
                unfold goneOf
                split
                · exact c6'
                · simp
              obtain ⟨A, c, rfl, hj, hlc, hcm, hA0, hp⟩ := hs.sl_inv
              have h63 : len + n ≤ maxLen := by
                have : len + n ≤ (len + n) * i.bytes := Nat.le_mul_of_pos_right _ hby
                simp only [maxLen]; omega
              have hcs : cs.length = n * i.size := by rw [hseg.len, hxl]
              have hnewlen : (ob.cells ++ cs).length = (len + n) * i.size := by rw [List.length_append, c4, hcs, Nat.add_mul]
              -- a new row
              have grow : c < len + n → ∀ (olds : List Value) (fp0 : Nat → List Nat), olds.length = len * i.size → (Builtin.firstCells i.size len (.slice A len c)).run P w.drew = .ok olds.toArray w.drew →
                  (∀ k (hk : k < ob.cells.length) (hk' : k < olds.length), CR w g.S g.J H ob.cells[k] olds[k] (fp0 k)) → (∀ v, v ∈ olds → v.oneCell' = true) → ((List.range ob.cells.length).flatMap fp0).Nodup → (∀ k, k < ob.cells.length → ∀ c, c ∈ fp0 k → c ∈ g.F id) →
                  ∃ z w' g', (Builtin.append_ #[t, t2] ty #[.slice A len c, y]).run P w = .ok z w' ∧ Out B H w g b { v := .sl id (ver + 1) 0 (len + n), rd := id :: ids, wr := ((goneOf cs ids).map fun i => (i, none)) ++ [(id, some { ob with ver := ver + 1, cells := ob.cells ++ cs })] } z w' g' := by
                intro hgc olds fp0 hol hold hcr0 hone0 hnd0 hF0
                have hnx := nextslicecap_le (need := len + n) (old := c) hgc
                have hrun := run_append_grow_src w t t2 ty e i zv hu hi hz A len c olds hold y n xs hsrc hgc (by simp only [maxLen] at h63; omega) (by
                  have := Nat.mul_le_mul_right i.bytes hnx
                  rw [Nat.mul_assoc] at this
                  omega)
                obtain ⟨h1, h2⟩ := heap_push (w := w) (o := .cells ((olds ++ xs).toArray ++ Builtin.zeroCells zv.cells (grownCap w (len + n) c e - (len + n))) e)
                have hsize : ((olds ++ xs).toArray ++ Builtin.zeroCells zv.cells (grownCap w (len + n) c e - (len + n))).size = grownCap w (len + n) c e * i.size := by
                  rw [Array.size_append, size_zeroCells, hzs]
                  simp only [List.size_toArray, List.length_append, hxl, hol]
                  rw [← Nat.add_mul, ← Nat.add_mul]
                  congr 1
                  have := grown_ge w (len + n) c e
                  omega
                let fp' : Nat → List Nat := fun k => if k < len * i.size then fp0 k else fp (k - len * i.size)
                have kind : ∀ k, k < (ob.cells ++ cs).length → (k < ob.cells.length ∧ fp' k = fp0 k) ∨ (ob.cells.length ≤ k ∧ k - ob.cells.length < cs.length ∧ fp' k = fp (k - ob.cells.length)) := fun k hk => by
                  rw [List.length_append] at hk
                  by_cases e : k < len * i.size
                  · exact .inl ⟨by omega, if_pos e⟩
                  · exact .inr ⟨by omega, by omega, by rw [c4]; exact if_neg e⟩
                have fpF : ∀ k, k < (ob.cells ++ cs).length → ∀ c, c ∈ fp' k → ∃ id2 ob2, (id2 = id ∨ id2 ∈ (goneOf cs ids)) ∧ H id2 = some ob2 ∧ 1 ≤ ob2.lv ∧ c ∈ g.F id2 := fun k hk c hc => by
                  rcases kind k hk with ⟨k1, e⟩ | ⟨k1, k2, e⟩ <;> rw [e] at hc
                  · exact ⟨id, ob, .inl rfl, hH, by omega, hF0 k k1 c hc⟩
                  · obtain ⟨i2, o2, q1, q2, q3, q4⟩ := hgone c (mem_fm.2 ⟨_, k2, hc⟩)
                    exact ⟨i2, o2, .inr q1, q2, q3, q4⟩
                have flt' : ∀ k, k < (ob.cells ++ cs).length → ∀ c, c ∈ fp' k → c < w.heap.size := fun k hk c hc => by
                  obtain ⟨i2, o2, _, q2, _, q4⟩ := fpF k hk c hc
                  exact m.flt q2 c q4
                have apart : ∀ k k2, k < ob.cells.length → k2 < cs.length → ∀ c, c ∈ fp0 k → c ∉ fp k2 := fun k k2 hk hk2 c hc hc' => by
                  obtain ⟨i2, o2, q1, q2, _, q4⟩ := hgone c (mem_fm.2 ⟨k2, hk2, hc'⟩)
                  exact m.dj id i2 ob o2 (fun e => hgid (e ▸ q1)) hH q2 c (hF0 k hk c hc) q4
                obtain ⟨n1, n2⟩ := nodup_fm.1 hnd0
                obtain ⟨m1, m2⟩ := nodup_fm.1 hseg.nd
                obtain ⟨r1, r2⟩ := m.put (x := id) (gone := goneOf cs ids) (ob' := { ob with ver := ver + 1, cells := ob.cells ++ cs }) (jo' := some w.heap.size) (F' := w.heap.size :: (List.range (ob.cells ++ cs).length).flatMap fp')
                  (w' := w.drew.alloc (.cells ((olds ++ xs).toArray ++ Builtin.zeroCells zv.cells (grownCap w (len + n) c e - (len + n))) e)) rfl rfl rfl (by show _ ≤ (w.heap.push _).size; simp) (fun b hb => bsz_of_heap (h1 b hb)) (fun b hb => .inl (h1 b hb))
                  (fun _ => ⟨ob, hH, .inl (by show ob.ver < ver + 1; omega)⟩)
                  (fun p => by
                    refine ⟨_, e, (0, 0), fp', h2, fun k _ h => (by simp at h), by show (ob.cells ++ cs).length ≤ _; rw [hsize, hnewlen]; exact Nat.mul_le_mul_right _ (grown_ge w _ c e), fun k hk => ?_, fun k hk => ?_, rfl⟩
                    · refine CR.mono p ?_ fun c hc => h1 c (flt' k hk c hc)
                      have hk2 : k < (ob.cells ++ cs).length := hk
                      have hk3 : k < (olds ++ xs).length := by rw [List.length_append, hol, hxl, ← Nat.add_mul, ← hnewlen]; exact hk
                      rw [isr rfl hk3]
                      show CR w g.S g.J H (ob.cells ++ cs)[k] (olds ++ xs)[k] (fp' k)
                      rcases kind k hk with ⟨k1, e⟩ | ⟨k1, k2, e⟩ <;> rw [e]
                      · rw [List.getElem_append_left k1, List.getElem_append_left (by omega)]
                        exact hcr0 k k1 (by omega)
                      · rw [List.getElem_append_right k1, List.getElem_append_right (by omega)]
                        simp only [hol, ← c4]
                        exact hseg.cr _ k2 (by rw [← hseg.len]; exact k2)
                    · have hk3 : k < (olds ++ xs).length := by rw [List.length_append, hol, hxl, ← Nat.add_mul, ← hnewlen]; exact hk
                      rw [isr rfl hk3]
                      rcases List.mem_append.1 (List.getElem_mem hk3) with h | h
                      · exact hone0 _ h
                      · exact hseg.one _ h)
                  (by
                    refine List.nodup_cons.2 ⟨fun h => ?_, nodup_fm.2 ⟨fun k hk => ?_, fun i j hij hj c hc hc' => ?_⟩⟩
                    · obtain ⟨k, hk, h⟩ := mem_fm.1 h
                      have := flt' k hk _ h
                      omega
                    · rcases kind k hk with ⟨k1, e⟩ | ⟨k1, k2, e⟩ <;> rw [e]
                      · exact n1 k k1
                      · exact m1 _ k2
                    · rcases kind i (by omega) with ⟨k1, e⟩ | ⟨k1, k2, e⟩ <;> rcases kind j hj with ⟨l1, f⟩ | ⟨l1, l2, f⟩ <;> rw [e] at hc <;> rw [f] at hc'
                      · exact n2 i j hij l1 c hc hc'
                      · exact apart _ _ k1 l2 c hc hc'
                      · exact apart _ _ l1 k2 c hc' hc
                      · exact m2 _ _ (by omega) l2 c hc hc')
                  (fun b hb => by injection hb with hb; left; omega)
                  (fun c hc => by
                    rcases List.mem_cons.1 hc with rfl | hc
                    · left; exact Nat.le_refl _
                    · obtain ⟨k, hk, hc⟩ := mem_fm.1 hc
                      exact .inr (fpF k hk c hc))
                refine ⟨_, _, ⟨upd g.J id (some (some w.heap.size)), g.S, upd g.F id (w.heap.size :: (List.range (ob.cells ++ cs).length).flatMap fp')⟩, hrun,
                  ⟨.sl0 (c := w.heap.size) (upd_same ..) (ob := { ob with ver := ver + 1, cells := ob.cells ++ cs }) (by show appW H _ id = _; rw [appW_put, if_pos rfl]) rfl (grown_ge w _ c e) (grownCap_le_maxLen w _ c e h63) (by have := grown_ge w (len + n) c e; omega) (by
                    have h3 : (w.drew.alloc (.cells ((olds ++ xs).toArray ++ Builtin.zeroCells zv.cells (grownCap w (len + n) c e - (len + n))) e)).heap[w.heap.size]? = some (.cells ((olds ++ xs).toArray ++ Builtin.zeroCells zv.cells (grownCap w (len + n) c e - (len + n))) e) := h2
                    simp only [bsz, h3, hsize]
                    rw [c3]; exact Nat.le_refl _), r1, r2, fun j hjj => ?_⟩⟩
                by_cases e : j = id
                · subst e; exact .inl hj
                · have hj' : upd g.J id (some (some w.heap.size)) j ≠ none := hjj
                  rw [upd_ne _ _ _ _ e] at hj'
                  exact .inl hj'
              rcases (hp ob hH).2 hver with ⟨hc0, hl0, hj0⟩ | ⟨hc1, blk, hJ, rfl, hcap⟩
              · subst hc0; subst hl0
                have hobc : ob.cells = [] := List.eq_nil_of_length_eq_zero (by rw [c4]; simp)
                by_cases hn : n = 0
                · subst hn
                  have hx0 : xs = [] := List.eq_nil_of_length_eq_zero (by omega)
                  subst hx0
                  have hc0 : cs = [] := List.eq_nil_of_length_eq_zero (by rw [hseg.len]; rfl)
                  subst hc0
                  have hrun := run_append_nothing w t t2 ty e i hu hi A 0 0 (Nat.le_refl _) y hsrc
                  obtain ⟨r1, r2⟩ := m.put0 (x := id) (gone := []) (ob' := { ob with ver := ver + 1, cells := ob.cells ++ [] }) (jo' := none) (F' := []) (w' := w) rfl rfl rfl (Nat.le_refl _) (fun _ _ => rfl) (fun _ _ => .inl rfl) (fun _ => ⟨ob, hH, .inl (by show ob.ver < ver + 1; omega)⟩)
                    (fun _ => ⟨by show ob.cells ++ [] = []; rw [hobc]; rfl, rfl⟩) List.nodup_nil (fun _ b h => by cases h) (fun _ _ b h => by cases h) (fun b h => by cases h) (fun _ _ _ _ _ b h => by cases h)
                  refine ⟨_, w, ⟨upd g.J id (some none), g.S, upd g.F id []⟩, hrun, ⟨.sl (by show upd g.J id (some none) id ≠ none; rw [upd_same]; simp) (Nat.le_refl _) (by simp [maxLen]) (.inl rfl) fun ob2 h => ?_, r1, r2, fun j hjj => ?_⟩⟩
                  · have h' : (appW H (([].map fun i => (i, (none : Option Ob))) ++ [(id, some { ob with ver := ver + 1, cells := ob.cells ++ [] })])) id = some ob2 := h
                    rw [appW_put, if_pos rfl] at h'
                    injection h' with h'
                    exact ⟨by rw [← h']; exact Nat.le_refl _, fun _ => .inl ⟨rfl, rfl, fun _ => upd_same ..⟩⟩
                  · by_cases e : j = id
                    · subst e; exact .inl hj
                    · left
                      have hj' : upd g.J id (some none) j ≠ none := hjj
                      rwa [upd_ne _ _ _ _ e] at hj'
                · refine grow (by omega) [] (fun _ => []) (by simp) ?_ (fun k hk => by rw [hobc] at hk; simp at hk) (fun v hv => by cases hv) (by rw [fm_nil]; exact List.nodup_nil) (fun k _ c hc => by cases hc)
                  cases A <;> simp [Builtin.firstCells, loadCells, loadCellsFrom]
              · obtain ⟨arr, e', fr, fp0, hblk, hfz, hal, hcells, h1, hF⟩ := m.ob id ob _ hH hJ
                have hbs : bsz w blk = arr.size := by simp only [bsz, hblk]
                rw [hbs, c3] at hcap
                rw [Nat.zero_add] at hcap
                have hle : len * i.size ≤ arr.size := by omega
                by_cases hroom : len + n ≤ c
                · have hfit : (len + n) * i.size ≤ arr.size := Nat.le_trans (Nat.mul_le_mul_right _ hroom) hcap
                  have hfit' : len * i.size + xs.length ≤ arr.size := by rw [hxl, ← Nat.add_mul]; exact hfit
                  have hrun := run_append_room_src w t t2 ty e i hu hi blk 0 len c y n xs hsrc hroom (fun j hj => by rw [cell_at hblk (by omega)]; rfl) (fun j hj => unfrozen hblk hfz (by omega))
                  rw [Nat.zero_add] at hrun
                  obtain ⟨g', hS', hJ', hm', hp'⟩ := m.write hH hJ (by omega) hgid (off := len * i.size) (v' := ver + 1) (vs := cs) (cells' := ob.cells ++ cs) (xs := xs) fp (by omega) hseg.len (by rw [hbs, hnewlen]; exact hfit) (by rw [hbs, hseg.len]; exact hfit')
                    (fun k hk ho hk2 => by rw [List.getElem_append_right (by omega)]; simp only [c4]) (fun k hk hno => by
                      have : k < ob.cells.length := by rw [List.length_append] at hk; omega
                      exact ⟨this, List.getElem_append_left this⟩)
                    (fun k hk hk' => hseg.cr k hk hk') hseg.one hseg.nd hgone
                  refine ⟨_, _, g', hrun, ⟨.sl0 (c := blk) (by rw [hJ', upd_same]) (ob := { ob with ver := ver + 1, cells := ob.cells ++ cs }) (by show appW H _ id = _; rw [appW_put, if_pos rfl]) rfl hroom hcm hc1 (by
                    obtain ⟨q1, _⟩ := heap_setCells xs (len * i.size) w arr e' fr hblk
                    simp only [bsz, q1, putA_size]
                    rw [c3]; exact hcap), hm', hp', fun j hjj => ?_⟩⟩
                  rw [hJ'] at hjj
                  by_cases e : j = id
                  · subst e; exact .inl hj
                  · rw [upd_ne _ _ _ _ e] at hjj; exact .inl hjj
                · have hnF := m.nd id ob hH
                  rw [hF] at hnF
                  obtain ⟨hbn, hnF'⟩ := List.nodup_cons.1 hnF
                  refine grow (by omega) ((List.range (len * i.size)).map fun j => arr.getD j Go.undef) fp0 (by simp) ?_ (fun k hk hk' => ?_) (fun v hv => ?_) hnF' (fun k hk c hc => by rw [hF]; exact List.mem_cons_of_mem _ (mem_fm.2 ⟨k, hk, hc⟩))
                  · have := run_loadCells (P := P) w.drew ⟨blk, 0, none⟩ (len * i.size) (fun j => arr.getD j Go.undef) fun j hj => by
                      rw [addr_add, Nat.zero_add]
                      exact cell_at (w := w.drew) hblk (by omega)
                    simp only [Builtin.firstCells, this]
                  · simp only [List.getElem_map, List.getElem_range]
                    exact hcells k hk
                  · obtain ⟨k, hk, rfl⟩ := List.mem_map.1 hv
                    exact h1 k (by have := List.mem_range.1 hk; omega)
            · cases h
          · cases h
        · cases h
end

end Go.Proofs.Ytacfkfdnncgjcaa.Ev
end

section
set_option linter.unusedVariables false
set_option linter.unusedSimpArgs false
namespace Go.Proofs.Ytacfkfdnncgjcaa.Ev
open Go

section
variable {B : Beg} {H : Nat → Option Ob} {w : World} {g : Gh} {P : Program} {b : Nat}

theorem appW_self {id : Nat} {ob : Ob} (h : H id = some ob) : appW H [(id, some ob)] = H := by
  funext i
  simp only [appW, upd]
  split
  · rename_i e; rw [e, h]
  · rfl

theorem copy_sound (m : MR B H w g) {t t2 ty : TypeId} {dv sv : V} {x y : Value} {d : D} (h : copyD P H t dv sv = some d) (hd : VR w g.S g.J H dv x) (hs : VR w g.S g.J H sv y) :
    ∃ z w' g', (Builtin.copy_ #[t, t2] ty #[x, y]).run P w = .ok z w' ∧ Out B H w g b d z w' g' := by
  unfold copyD at h
  split at h
  · cases h
  · rename_i e sz bytes hsl
    obtain ⟨hu, i, hi, rfl, rfl⟩ := sl_und hsl
    split at h
    · rename_i id ver off len
      split at h
      · rename_i ob hob
        obtain ⟨hH, hver⟩ := getO_some hob
        split at h
        · rename_i cs ids n hseg hlen
          simp only at h
          split at h
          · rename_i hcond
            obtain ⟨c1, c2, c3, c4⟩ := hcond
            simp only [Option.some.injEq] at h
            subst h
            obtain ⟨A, c, rfl, hj, hlc, hcm, hA0, hp⟩ := hd.sl_inv
            -- sizes of nothing
            have segm : ∃ (A' : Option Addr) (c' : Nat) (xs : List Value) (fp : Nat → List Nat), y = .slice A' n c' ∧ xs.length = min n len * i.size ∧ (cs.take (min n len * i.size)).length = xs.length ∧
                (∀ k (hk : k < (cs.take (min n len * i.size)).length) (hk' : k < xs.length), CR w g.S g.J H (cs.take (min n len * i.size))[k] xs[k] []) ∧ (∀ v, v ∈ xs → v.oneCell' = true) ∧
                (Builtin.firstCells i.size (min n len) y).run P w = .ok xs.toArray w := by
              rcases Nat.eq_zero_or_pos i.size with hz | hz
              · have hcs : ∃ A' c', y = .slice A' n c' := by
                  unfold segV at hseg
                  split at hseg
                  · simp only [lenV, Option.some.injEq] at hlen; subst hlen; obtain ⟨A', rfl⟩ := hs.nils_inv; exact ⟨_, _, rfl⟩
                  · simp only [lenV, Option.some.injEq] at hlen; subst hlen; obtain ⟨A', c', f, rfl, _⟩ := hs.list_inv; exact ⟨_, _, rfl⟩
                  · simp only [lenV, Option.some.injEq] at hlen; subst hlen; obtain ⟨A', c', rfl, _⟩ := hs.sl_inv; exact ⟨_, _, rfl⟩
                  · cases hseg
                obtain ⟨A', c', rfl⟩ := hcs
                refine ⟨A', c', [], fun _ => [], rfl, by simp [hz], by simp [hz], fun k hk hk' => by simp at hk', fun v hv => (by cases hv), ?_⟩
                rw [hz]
                cases A' <;> simp [Builtin.firstCells, loadCells, loadCellsFrom]
              · obtain ⟨A', c', xs, fp, rfl, hnc, _, hxl, hsg, hA', _⟩ := seg_sound m hz hseg hlen hs
                have hle : min n len * i.size ≤ n * i.size := Nat.mul_le_mul_right _ (Nat.min_le_left ..)
                refine ⟨A', c', xs.take (min n len * i.size), fp, rfl, by simp; omega, by simp [hsg.len], fun k hk hk' => ?_, fun v hv => hsg.one v (List.mem_of_mem_take hv), ?_⟩
                · simp only [List.getElem_take]
                  have hk2 : k < cs.length := by simp at hk; omega
                  have hk3 : k < xs.length := by rw [← hsg.len]; exact hk2
                  have hu' := List.any_eq_false.1 c4 _ (List.getElem_mem hk)
                  simp only [List.getElem_take] at hu'
                  have hcr := hsg.cr k hk2 hk3
                  have hf := hcr.flat (by simpa using hu') (hsg.one _ (List.getElem_mem hk3))
                  rw [hf] at hcr
                  exact hcr
                · rcases hA' with hA' | ⟨a, rfl, hc⟩
                  · subst hA'
                    have : xs.take (min 0 len * i.size) = [] := by simp
                    rw [this]
                    cases A' <;> simp [Builtin.firstCells, loadCells, loadCellsFrom]
                  · have := run_loadCells_list (P := P) w a (xs.take (min n len * i.size)) (fun j v hv => by
                      rw [List.getElem?_take] at hv
                      split at hv
                      · exact hc j v hv
                      · cases hv)
                    rw [show (xs.take (min n len * i.size)).length = min n len * i.size by simp; omega] at this
                    simp only [Builtin.firstCells, this]
            obtain ⟨A', c', xs, fp, rfl, hxl, htl, hcr, hone, hfirst⟩ := segm
            have hsize : (sizeOf e).run P w = .ok i.size w := by simp [sizeOf, typeInfo, hi]
            rcases (hp ob hH).2 hver with ⟨hc0, hl0, _⟩ | ⟨hc1, blk, hJ, rfl, hcap⟩
            · subst hc0; subst hl0
              have hx0 : xs = [] := List.eq_nil_of_length_eq_zero (by simpa using hxl)
              subst hx0
              have hct : cs.take (min n 0 * i.size) = [] := by simp
              have hfirst' : (Builtin.firstCells i.size 0 (.slice A' n c')).run P w = .ok #[] w := by simpa using hfirst
              have e1 : ({ ob with cells := setCs ob.cells off (cs.take (min n 0 * i.size)) } : Ob) = ob := by
                rw [hct]
                simp [setCs]
              refine ⟨.int .i64 0, w, g, ?_, ?_⟩
              · cases A <;> simp [Builtin.copy_, run_underlying hu, Builtin.lenOf, hsize, hfirst', storeCells, goInt]
              · have e2 : appW H [(id, some { ob with cells := setCs ob.cells off (cs.take (min n 0 * i.size)) })] = H := by rw [e1]; exact appW_self hH
                exact ⟨by show VR _ _ _ (appW H [(id, _)]) _ _; rw [e2]; simpa using int_of, by show MR B (appW H [(id, _)]) _ _; rw [e2]; exact m, by show Pers _ _ _ _ _ _ _ (appW H [(id, _)]); rw [e2]; exact .refl .., fun j hj => .inl hj⟩
            · obtain ⟨arr, e', fr, fp0, hblk, hfz, hal, hcells, h1, hF⟩ := m.ob id ob _ hH hJ
              have hbs : bsz w blk = arr.size := by simp only [bsz, hblk]
              have hle : min n len * i.size ≤ len * i.size := Nat.mul_le_mul_right _ (Nat.min_le_right ..)
              have hfit : off + (cs.take (min n len * i.size)).length ≤ ob.cells.length := by rw [htl, hxl]; omega
              have hst := run_storeCells_cells (P := P) blk off xs 0 w (fun j hj => by rw [Nat.add_zero, cell_at hblk (by omega)]; rfl) (fun j hj => by rw [Nat.add_zero]; exact unfrozen hblk hfz (by omega)) hone
              rw [Nat.add_zero] at hst
              have hsl : (setCs ob.cells off (cs.take (min n len * i.size))).length = ob.cells.length := setCs_len hfit
              obtain ⟨g', hS', hJ', hm', hp'⟩ := m.write hH hJ c1 (gone := []) (by simp) (off := off) (v' := ob.ver) (vs := cs.take (min n len * i.size)) (cells' := setCs ob.cells off (cs.take (min n len * i.size))) (xs := xs) (fun _ => []) (Nat.le_refl _) htl (by rw [hsl, hbs]; exact hal) (by rw [hbs]; omega)
                (fun k hk ho hk2 => setCs_in hfit hk ho hk2) (fun k hk hno => setCs_out hfit hk hno) (fun k hk hk' => hcr k hk hk') hone (by rw [fm_nil]; exact List.nodup_nil) (fun c hc => by rw [fm_nil] at hc; cases hc)
              refine ⟨.int .i64 (min n len : Nat), _, g', ?_, ⟨int_of, hm', hp', fun j hjj => ?_⟩⟩
              · have hmin : Nat.min n len = min n len := rfl
                simp [Builtin.copy_, run_underlying hu, Builtin.lenOf, hsize, hmin, hfirst, hst, goInt]
              · rw [hJ'] at hjj
                by_cases e : j = id
                · subst e; exact .inl hj
                · rw [upd_ne _ _ _ _ e] at hjj; exact .inl hjj
          · cases h
        · cases h
      · cases h
    · cases h

/-! ### Literals -/
inductive PartsR (w : World) (S : Nat → Prop) (J : Nat → Option (Option Nat)) (H : Nat → Option Ob) : List (Nat × V) → List (Nat × Value) → Prop
  | nil : PartsR w S J H [] []
  | cons (i : Nat) {v : V} {x : Value} {ps : List (Nat × V)} {qs : List (Nat × Value)} (h : VR w S J H v x) (t : PartsR w S J H ps qs) : PartsR w S J H ((i, v) :: ps) ((i, x) :: qs)

theorem foldl_putA (off : Nat) : ∀ (l : List Value) (s : Nat) (cs : Array Value), (l.zipIdx s).foldl (fun cs (x : Value × Nat) => cs.setIfInBounds (off + x.2) x.1) cs = putA cs (off + s) l
  | [], s, cs => rfl
  | v :: l, s, cs => by
    simp only [List.zipIdx_cons, List.foldl_cons, putA]
    rw [foldl_putA off l (s + 1)]
    rfl

theorem fill_sound {S : Nat → Prop} {J : Nat → Option (Option Nat)} {place place' : Nat → Option (Nat × Nat)} (hp : ∀ i, place i = place' i) : ∀ {ps : List (Nat × V)} {qs : List (Nat × Value)} {cells cs : List V} {arr : Array Value},
    PartsR w S J H ps qs → cells.length = arr.size → (∀ k (hk : k < cells.length), VR w S J H cells[k] (arr.getD k Go.undef) ∧ (arr.getD k Go.undef).oneCell' = true) → fillV place cells ps = some cs →
    ∃ arr', Instr.fill place' arr qs = some arr' ∧ cs.length = arr'.size ∧ ∀ k (hk : k < cs.length), VR w S J H cs[k] (arr'.getD k Go.undef) ∧ (arr'.getD k Go.undef).oneCell' = true := by
  intro ps qs cells cs arr hr
  induction hr generalizing cells arr with
  | nil =>
    intro hl hc h
    simp only [fillV, Option.some.injEq] at h
    subst h
    exact ⟨arr, rfl, hl, hc⟩
  | @cons i v x ps qs hv ht ih =>
    intro hl hc h
    simp only [fillV] at h
    split at h
    · rename_i off size vs hpl hvs
      split at h
      · rename_i hcond
        obtain ⟨hvl, hvc⟩ := cells_sound hvs hv
        have hfit : off + vs.length ≤ cells.length := by omega
        have hput : (setCs cells off vs).length = (putA arr off x.cells.toList).size := by rw [setCs_len hfit, putA_size]; exact hl
        have e : cells.take off ++ vs ++ cells.drop (off + size) = setCs cells off vs := by rw [← hcond.1]; rfl
        rw [e] at h
        have hxl : x.cells.toList.length = vs.length := by rw [hvl]; simp
        obtain ⟨arr', h1, h2, h3⟩ := ih hput (fun k hk => by
          by_cases ek : off ≤ k ∧ k < off + vs.length
          · rw [setCs_in hfit hk ek.1 (by omega)]
            have := putA_in x.cells.toList off arr (k - off) (by omega) (by omega)
            rw [show off + (k - off) = k by omega] at this
            rw [this]
            have hg := hvc (k - off) (by omega)
            have e2 : x.cells.getD (k - off) Go.undef = x.cells.toList[k - off]'(by omega) := by
              have : k - off < x.cells.size := by omega
              simp [Array.getD, this]
            rw [e2] at hg
            exact hg
          · obtain ⟨q1, q2⟩ := setCs_out hfit hk ek
            rw [q2, putA_out _ _ _ _ (by rw [hxl]; exact ek)]
            exact hc k q1) h
        refine ⟨arr', ?_, h2, h3⟩
        unfold Instr.fill
        rw [← hp i, hpl]
        simp only
        have hn : (x.cells.size ≠ size || off + x.cells.size > arr.size) = false := by
          simp
          omega
        rw [hn]
        simp only [Bool.false_eq_true, if_false]
        rw [← h1]
        congr 1
        rw [← Array.foldl_toList, Array.toList_zipIdx]
        have := foldl_putA off x.cells.toList 0 arr
        rw [Nat.add_zero] at this
        exact this
      · cases h
    · cases h

theorem fill_size {place : Nat → Option (Nat × Nat)} : ∀ {qs : List (Nat × Value)} {arr arr' : Array Value}, Instr.fill place arr qs = some arr' → arr'.size = arr.size
  | [], arr, arr', h => by simp [Instr.fill] at h; rw [h]
  | (i, v) :: qs, arr, arr', h => by
    unfold Instr.fill at h
    split at h
    · cases h
    · simp only at h
      split at h
      · cases h
      · rw [fill_size h, ← Array.foldl_toList, Array.toList_zipIdx]
        have := foldl_putA
        rename_i off size _ _
        have := foldl_putA off v.cells.toList 0 arr
        rw [this, putA_size]

theorem parts_sound {S : Nat → Prop} {J : Nat → Option (Option Nat)} {fr : Nat → V} {a : Act} (sl : ∀ t, VR w S J H (fr t) (a.tmps.getD t Go.undef)) : ∀ {ps : List (Nat × Operand)} {vs : List (Nat × V)},
    ps.mapM (fun p => (ev fr p.2).map fun v => (p.1, v)) = some vs → PartsR w S J H vs (ps.map fun (i, x) => (i, a.eval x))
  | [], vs, h => by simp at h; subst h; exact .nil
  | (i, x) :: ps, vs, h => by
    obtain ⟨u, r, h1, h2, rfl⟩ := mapM_cons_some h
    obtain ⟨v, hv, rfl⟩ := Option.map_eq_some_iff.1 h1
    exact .cons i (ev_sound sl hv) (parts_sound sl h2)

theorem places_at {fs : List Field} : ∀ {places : List (Nat × Nat)}, fs.mapM (fun f => (P.info? f.type).map fun i => (f.offset, i.size)) = some places → ∀ i : Nat, places[i]? = match fs[i]? with
    | some x => (szT P x.type).map fun s => (x.offset, s)
    | none => none := by
  intro places h i
  have hl := mapM_len h
  cases hi : fs[i]? with
  | none =>
    have : fs.length ≤ i := List.getElem?_eq_none_iff.1 hi
    simp only
    exact List.getElem?_eq_none (by omega)
  | some x =>
    obtain ⟨h1, rfl⟩ := List.getElem?_eq_some_iff.1 hi
    have := mapM_at h i h1 (by omega)
    rw [List.getElem?_eq_getElem (by omega), ← this]
    simp only [szT, Option.map_map]
    rfl

theorem build_sound {S : Nat → Prop} {J : Nat → Option (Option Nat)} {fr : Nat → V} {a : Act} (sl : ∀ t, VR w S J H (fr t) (a.tmps.getD t Go.undef)) {t : TypeId} {ps : Array (Nat × Operand)} {z cs : List V} {vs : List (Nat × V)}
    (hz : zeroT P t = some z) (hag : aggT P t = some true) (hvs : ps.toList.mapM (fun p => (ev fr p.2).map fun v => (p.1, v)) = some vs) (hpl : plAll P t = true) (hf : fillV (plT P t) z vs = some cs) :
    ∃ x, (Instr.build t (ps.map fun (i, x) => (i, a.eval x))).run P w = .ok x w ∧ VR w S J H (.agg cs) x := by
  obtain ⟨it, zv, hi, hzv, hl, hc⟩ := zero_sound (w := w) (g := ⟨J, S, fun _ => []⟩) hz
  obtain ⟨d, hd, hdd⟩ := und_agg hag
  have hparts := parts_sound sl hvs
  have conclude : ∀ {place' : Nat → Option (Nat × Nat)}, (∀ i, plT P t i = place' i) → (∀ arr', Instr.fill place' zv.cells (ps.map fun (i, x) => (i, a.eval x)).toList = some arr' → P.built t (ps.map fun (i, x) => (i, a.eval x)).toList = some arr') →
      ∃ x, (Instr.build t (ps.map fun (i, x) => (i, a.eval x))).run P w = .ok x w ∧ VR w S J H (.agg cs) x := by
    intro place' hp hb
    obtain ⟨arr', h1, h2, h3⟩ := fill_sound hp hparts hl (fun k hk => ⟨.pure (hc k hk).1, (hc k hk).2⟩) hf
    rw [Array.toList_map] at hb
    refine ⟨_, run_build w t _ _ (by rw [Array.toList_map]; exact hb arr' h1), .agg h2 (fun k hk => (h3 k hk).1) fun k hk => (h3 k hk).2⟩
  cases d with
  | struct fields =>
    have hall : ∀ f, f ∈ fields.toList → (szT P f.type).isSome = true := by
      unfold plAll at hpl
      rw [hd] at hpl
      exact fun f hf => List.all_eq_true.1 hpl f hf
    have hex : ∃ places, fields.toList.mapM (fun f => (P.info? f.type).map fun i => (f.offset, i.size)) = some places := by
      generalize fields.toList = fs at hall
      induction fs with
      | nil => exact ⟨[], rfl⟩
      | cons f fs ih =>
        obtain ⟨r, hr⟩ := ih fun f' hf' => hall f' (List.mem_cons_of_mem _ hf')
        have := hall f (List.mem_cons_self ..)
        unfold szT at this
        cases hq : P.info? f.type with
        | none => rw [hq] at this; cases this
        | some i => exact ⟨(f.offset, i.size) :: r, by simp [List.mapM_cons, hq, hr]⟩
    obtain ⟨places, hpls⟩ := hex
    refine conclude (place' := fun i => places.toArray[i]?) (fun i => ?_) fun arr' h => ?_
    · rw [List.getElem?_toArray, places_at hpls i]
      unfold plT
      rw [hd]
      simp only [Array.getElem?_toList]
      rfl
    · unfold Program.built
      simp only [hi, hd, hzv, hpls]
      exact h
  | array n e =>
    cases hie : P.info? e with
    | none =>
      exfalso
      unfold plAll at hpl
      rw [hd] at hpl
      simp [szT, hie] at hpl
    | some ie =>
      refine conclude (place' := fun i => some (i * ie.size, ie.size)) (fun i => ?_) fun arr' h => ?_
      · unfold plT
        rw [hd]
        simp [szT, hie]
      · unfold Program.built
        simp only [hi, hd, hzv, hie]
        exact h
  | _ => cases hdd

theorem buildSlice_sound (m : MR B H w g) (hb0 : g.J b = none) {fr : Nat → V} {a : Act} (sl : ∀ t, VR w g.S g.J H (fr t) (a.tmps.getD t Go.undef)) {t e : TypeId} {n sz bytes : Nat} {ps : Array (Nat × Operand)} {z cs : List V} {vs : List (Nat × V)} {d : D}
    (ht : slT P t = some (e, sz, bytes)) (hvs : ps.toList.mapM (fun p => (ev fr p.2).map fun v => (p.1, v)) = some vs) (hz : zeroT P e = some z) (hcond : z.length = sz ∧ 0 < sz ∧ n * sz ≤ 1000)
    (hf : fillV (fun i => some (i * sz, sz)) (zerosV n z) vs = some cs)
    (hd : (if n = 0 then ret .nils else
            if B.strict then some { v := .sl b 0 0 n, wr := [(b, some ⟨0, 2, sz, cs⟩)] } else
            let ms := cs.map (mvC H)
            let gone := ms.flatMap (·.2)
            if nodupB gone then some { v := .sl b 0 0 n, rd := gone, wr := (gone.map fun i => (i, none)) ++ [(b, some ⟨0, 2, sz, ms.map (·.1)⟩)], ok := cs.all (mvOk H) } else none) = some d) :
    ∃ x w' g', (Instr.buildSlice t n (ps.map fun (i, x) => (i, a.eval x))).run P w = .ok x w' ∧ Out B H w g b d x w' g' := by
  obtain ⟨hu, i, hi, rfl, rfl⟩ := sl_und ht
  obtain ⟨c1, c2, c3⟩ := hcond
  obtain ⟨i', zv, hi', hzv, hl, hc⟩ := zero_sound (w := w) (g := g) hz
  rw [hi] at hi'
  injection hi' with hi'
  subst hi'
  have hparts := parts_sound sl hvs
  have hzs := zeros_sound (g := g) (H := H) (w := w) (t := t) (l := n) (n := n * i.size) hl (by omega) (by rw [c1]; exact Nat.le_refl _) hc
  obtain ⟨arr, h1, h2, h3⟩ := fill_sound (S := g.S) (J := g.J) (H := H) (place' := fun j => some (j * i.size, i.size)) (fun _ => rfl) hparts (arr := madeCells zv.cells (n * i.size)) (by rw [zerosV_len, size_madeCells, c1]) (fun k hk => ⟨by
    have hk' : k < n * z.length := by rw [zerosV_len] at hk; exact hk
    have hm : k % z.length < z.length := Nat.mod_lt _ (by omega)
    rw [madeCells_at (by rw [← c1]; exact hk') (by omega), ← hl]
    have e : (zerosV n z)[k] = z[k % z.length] := by
      have : (zerosV n z)[k]? = some z[k % z.length] := by simp [zerosV, hk', hm]
      rw [List.getElem?_eq_getElem hk] at this
      injection this
    rw [e]
    exact .pure (hc _ hm).1, (hzs k hk).2⟩) hf
  by_cases hn : n = 0
  · subst hn
    simp only [if_true, ret, Option.some.injEq] at hd
    subst hd
    obtain ⟨r1, r2⟩ := m.push (w' := w.alloc (.cells arr e)) rfl rfl rfl rfl
    refine ⟨.slice (some ⟨w.heap.size, 0, none⟩) 0 0, _, g, ?_, .pure (.nils _), r1, r2, fun id h => .inl h⟩
    have hr0 : Array.range 0 = #[] := rfl
    have hm0 : madeCells zv.cells (0 * i.size) = #[] := Array.eq_empty_of_size_eq_zero (by rw [size_madeCells, Nat.zero_mul])
    rw [hm0] at h1
    have h1' : Instr.fill (fun j => some (j * i.size, i.size)) #[] (ps.toList.map fun x => (x.1, a.eval x.2)) = some arr := h1
    simp [Instr.buildSlice, run_underlying hu, sizeOf, typeInfo, hi, hr0, h1', newRow]
  · rw [if_neg hn] at hd
    have hlen : cs.length = n * i.size := by
      have := fill_size h1
      rw [h2, this, size_madeCells]
    have hrun := run_buildSlice (P := P) w t e n (ps.map fun (i, x) => (i, a.eval x)) arr i zv hu hi hzv (by omega) (by
      intro h0
      rcases Nat.mul_eq_zero.1 h0 with h | h <;> omega) (by rw [Array.toList_map]; exact h1)
    obtain ⟨p1, p2⟩ := heap_push (w := w) (o := .cells arr e)
    have hmax : n ≤ maxLen := by
      have : n ≤ n * i.size := Nat.le_mul_of_pos_right _ c2
      simp only [maxLen]; omega
    split at hd
    · simp only [Option.some.injEq] at hd
      subst hd
      obtain ⟨g', o⟩ := Out.made (gone := []) (rd := []) (lv := 2) (sz := i.size) (w' := w.alloc (.cells arr e)) m hb0 (v := .sl b 0 0 n) (z := .slice (some ⟨w.heap.size, 0, none⟩) n n) (cells := cs) (fun _ => []) rfl rfl rfl (by show (w.heap.push _).size = _; simp) p1 p2
        (fun k _ h => by simp at h) (by omega) (fun k hk => .inl ⟨(h3 k hk).1, rfl⟩) (fun k hk => (h3 k hk).2) (by rw [fm_nil]; exact List.nodup_nil) (fun c h => by rw [fm_nil] at h; cases h)
        (fun S' J' H' hJ hH => .sl0 hJ hH rfl (Nat.le_refl _) hmax (by omega) (by
          have h3 : (w.alloc (.cells arr e)).heap[w.heap.size]? = some (.cells arr e) := p2
          simp only [bsz, h3]; omega))
      exact ⟨_, _, g', hrun, o⟩
    · simp only at hd
      split at hd
      · rename_i hnd
        simp only [Option.some.injEq] at hd
        subst hd
        obtain ⟨fp, q1, q2, q3⟩ := mv_sound m (vs := cs) (x := fun k => arr.getD k Go.undef) (fun k hk => (h3 k hk).1) (nodup_of_nodupB hnd)
        have hml : ((cs.map (mvC H)).map (·.1)).length = cs.length := by simp
        obtain ⟨g', o⟩ := Out.made (gone := (cs.map (mvC H)).flatMap (·.2)) (rd := (cs.map (mvC H)).flatMap (·.2)) (lv := 2) (sz := i.size) (w' := w.alloc (.cells arr e)) m hb0 (v := .sl b 0 0 n) (z := .slice (some ⟨w.heap.size, 0, none⟩) n n) (cells := (cs.map (mvC H)).map (·.1)) fp rfl rfl rfl (by show (w.heap.push _).size = _; simp) p1 p2
          (fun k _ h => by simp at h) (by omega) (fun k hk => by simpa using q1 k (by omega)) (fun k hk => (h3 k (by omega)).2) (by rw [hml]; exact q2) (by rw [hml]; exact q3)
          (fun S' J' H' hJ hH => .sl0 hJ hH rfl (Nat.le_refl _) hmax (by omega) (by
            have h3 : (w.alloc (.cells arr e)).heap[w.heap.size]? = some (.cells arr e) := p2
            simp only [bsz, h3]; omega))
        exact ⟨_, _, g', hrun, o.okd _⟩
      · cases hd

/-! ### Conversions -/
theorem isU8 {e : TypeId} (h : isU8T (P.underlying e) = true) : P.underlying e = some (.int .u8) := by
  unfold isU8T at h
  split at h
  · assumption
  · cases h

theorem push_bytes : ∀ (ns : List Int) (s : ByteArray), (ns.foldl (fun r n => r.push (UInt8.ofNat n.toNat)) s).data = s.data ++ (ns.map fun n => UInt8.ofNat n.toNat).toArray
  | [], s => by simp
  | n :: ns, s => by
    simp only [List.foldl_cons]
    rw [push_bytes ns]
    simp [ByteArray.push]

theorem bytes_cells {cs : List V} {bs : List UInt8} (h : cs.mapM byteOf = some bs) : ∃ ns : List Int, cs = ns.map (V.int .u8) ∧ bs = ns.map fun n => UInt8.ofNat n.toNat := by
  induction cs generalizing bs with
  | nil => simp at h; subst h; exact ⟨[], rfl, rfl⟩
  | cons c cs ih =>
    obtain ⟨u, r, h1, h2, rfl⟩ := mapM_cons_some h
    obtain ⟨ns, rfl, rfl⟩ := ih h2
    unfold byteOf at h1
    split at h1
    · rename_i n
      injection h1 with h1
      subst h1
      exact ⟨n :: ns, rfl, rfl⟩
    · cases h1

theorem TR.int_inv {S : Nat → Prop} {k : IntKind} {n : Int} {x : Value} {fp : List Nat} (h : TR w S (.int k n) x fp) : x = .int k n := by
  cases h with
  | pr h => cases h; rfl

theorem conv_sound (m : MR B H w g) (hb0 : g.J b = none) {src dst : TypeId} {x : V} {y : Value} {d : D} (h : convD P H b src dst x = some d) (hx : VR w g.S g.J H x y) :
    ∃ z w' g', (convert src dst y).run P w = .ok z w' ∧ Out B H w g b d z w' g' := by
  unfold convD at h
  split at h
  · rename_i ds k k0 n hs hd
    simp only [ret, Option.some.injEq] at h
    subst h
    obtain rfl := hx.int_inv
    exact ⟨_, w, g, by simp [convert, run_underlying hs, run_underlying hd, Conv.intToInt], .same m rfl int_of⟩
  · rename_i ds s hs hd
    simp only [ret, Option.some.injEq] at h
    subst h
    obtain rfl := hx.str_inv
    exact ⟨_, w, g, by simp [convert, run_underlying hs, run_underlying hd], .same m rfl (.pure (.str _))⟩
  · rename_i ds e s hs hd
    split at h
    · rename_i hu8
      have he := isU8 hu8.1
      simp only [Option.some.injEq] at h
      subst h
      obtain rfl := hx.str_inv
      have hcap : s.size ≤ grownCap w s.size 0 e := grown_ge w s.size 0 e
      have hmax : s.size ≤ maxLen := by have := hu8.2; simp only [maxLen]; omega
      · let elems : Array Value := s.data.map fun b => Value.int .u8 b.toNat
        let arr : Array Value := elems ++ Array.replicate (grownCap w s.size 0 e - s.size) (.int .u8 0)
        have hsz : arr.size = grownCap w s.size 0 e := by
          show (elems ++ Array.replicate (grownCap w s.size 0 e - s.size) (Value.int .u8 0)).size = _
          have : elems.size = s.size := by show (s.data.map _).size = _; rw [Array.size_map]; rfl
          simp only [Array.size_append, Array.size_replicate, this]
          omega
        let w1 : World := w.drew.alloc (.cells arr e)
        let w2 : World := w1.freeze ⟨w.heap.size, arr.size, none⟩ 1
        obtain ⟨p1, p2⟩ := heap_push (w := w) (o := .cells arr e)
        have q2 : w2.heap[w.heap.size]? = some (.cells arr e (arr.size, arr.size + 1)) := by
          show (w1.freeze ⟨w.heap.size, arr.size, none⟩ 1).heap[w.heap.size]? = _
          have : w1.heap[w.heap.size]? = some (.cells arr e) := p2
          simp [World.freeze, Array.getElem?_modify, this]
        have q1 : ∀ c, c < w.heap.size → w2.heap[c]? = w.heap[c]? := fun c hc => by
          show (w1.freeze ⟨w.heap.size, arr.size, none⟩ 1).heap[c]? = _
          have h1 : w1.heap[c]? = w.heap[c]? := p1 c hc
          have hne : ¬ w.heap.size = c := by omega
          simp [World.freeze, Array.getElem?_modify, hne, h1]
        have hcr : ∀ k (hk : k < (bytesV s).length), CR w g.S g.J H (bytesV s)[k] (arr.getD k Go.undef) [] ∧ (arr.getD k Go.undef).oneCell' = true := fun k hk => by
          have hk' : k < s.size := by rw [bytesV_len] at hk; exact hk
          have hd' : k < s.data.size := hk'
          have ha : arr.getD k Go.undef = .int .u8 (s.data[k]).toNat := by
            have hka : k < arr.size := by omega
            simp only [Array.getD, hka, dif_pos, Array.getInternal_eq_getElem]
            have he2 : k < elems.size := by show k < (s.data.map _).size; rw [Array.size_map]; exact hd'
            show (elems ++ Array.replicate (grownCap w s.size 0 e - s.size) (Value.int .u8 0))[k] = _
            rw [Array.getElem_append_left he2]
            simp [elems]
          have hv : (bytesV s)[k] = .int .u8 (s.data[k]).toNat := by simp [bytesV]
          rw [ha, hv]
          exact ⟨.inl ⟨int_of, rfl⟩, rfl⟩
        have hsz2 : w2.heap.size = w.heap.size + 1 := by
          show (w1.freeze ⟨w.heap.size, arr.size, none⟩ 1).heap.size = _
          simp [World.freeze, w1, World.alloc]
        have hrun : (convert src dst (.string s)).run P w = .ok (.slice (some ⟨w.heap.size, 0, none⟩) s.size (grownCap w s.size 0 e)) w2 := by
          have hq : (Question.appendCap s.size 0 e).forced = false := rfl
          simp [convert, run_underlying hs, run_underlying hd, run_underlying he, Conv.stringToBytes, hq, newRow, markStringish]
          have hsh : w1.shape? w.heap.size = some (e, arr.size) := by
            have : w1.heap[w.heap.size]? = some (.cells arr e) := p2
            simp only [World.shape?, this]
          change ((Sem.run P (match w1.shape? w.heap.size with
            | some (fst, n) => freeze { block := w.heap.size, off := n } 1
            | x => pure ()) w1).andThen _) = _
          rw [hsh]
          rfl
        by_cases hcz : grownCap w s.size 0 e = 0
        · have hs0 : s.size = 0 := by omega
          have hb0' : bytesV s = [] := List.eq_nil_of_length_eq_zero (by rw [bytesV_len, hs0])
          obtain ⟨g', o⟩ := Out.empty m hb0 (m.grow (w' := w2) (by omega) q1 rfl rfl rfl) 2 1 [] (some ⟨w.heap.size, 0, none⟩)
          refine ⟨_, _, g', hrun, ?_⟩
          rw [hb0', hcz, hs0]
          exact o
        obtain ⟨g', o⟩ := Out.made (gone := []) (rd := []) (lv := 2) (sz := 1) (w' := w2) m hb0 (v := .sl b 0 0 s.size) (z := .slice (some ⟨w.heap.size, 0, none⟩) s.size (grownCap w s.size 0 e)) (cells := bytesV s) (fun _ => []) rfl rfl rfl hsz2 q1 q2
          (fun k hk h => by simp only at h; omega) (by rw [bytesV_len]; omega) (fun k hk => (hcr k hk).1) (fun k hk => (hcr k hk).2) (by rw [fm_nil]; exact List.nodup_nil) (fun c h => by rw [fm_nil] at h; cases h)
          (fun S' J' H' hJ hH => .sl0 hJ hH rfl hcap (grownCap_le_maxLen w s.size 0 e hmax) (by omega) (by simp only [bsz, q2, hsz]; omega))
        exact ⟨_, _, g', hrun, o⟩
    · cases h
  · rename_i x' _ _ _ e hs hd hns
    split at h
    · rename_i hu8
      have he := isU8 hu8
      split at h
      · rename_i cs ids hseg
        obtain ⟨bs, hbs, rfl⟩ := Option.map_eq_some_iff.1 h
        have hlen : ∃ n, lenV x' = some n := by
          unfold segV at hseg
          split at hseg <;> first | exact ⟨_, rfl⟩ | cases hseg
        obtain ⟨n, hlen⟩ := hlen
        obtain ⟨A, c, xs, fp, rfl, hnc, hcm, hxl, hsg, hA, _⟩ := seg_sound m (by omega : 0 < 1) hseg hlen hx
        obtain ⟨ns, rfl, rfl⟩ := bytes_cells hbs
        have hxs : xs = ns.map (Value.int .u8) := by
          apply List.ext_getElem
          · rw [← hsg.len]; simp
          · intro k h1 h2
            have hk : k < (ns.map (V.int .u8)).length := by rw [hsg.len]; exact h1
            have hcr := hsg.cr k hk h1
            simp only [List.getElem_map] at hcr ⊢
            rcases hcr with ⟨hv, _⟩ | ht
            · exact hv.int_inv
            · exact ht.int_inv
        have hstr : (ns.foldl (fun r n => r.push (UInt8.ofNat n.toNat)) ByteArray.empty) = ⟨(ns.map fun n => UInt8.ofNat n.toNat).toArray⟩ := by
          have := push_bytes ns ByteArray.empty
          cases hx : (ns.foldl (fun r n => r.push (UInt8.ofNat n.toNat)) ByteArray.empty) with
          | mk data =>
            rw [hx] at this
            simp only at this
            rw [this]
            congr 1
            simp [ByteArray.empty, ByteArray.emptyWithCapacity]
            rfl
        refine ⟨.string ⟨(ns.map fun n => UInt8.ofNat n.toNat).toArray⟩, w, g, ?_, .same m rfl (.pure (.str _))⟩
        rw [run_convert_bytes_string w src dst e A n c hs he hd]
        rcases hA with hA | ⟨a, rfl, hc⟩
        · subst hA
          have : ns = [] := by
            have h1 : xs = [] := List.eq_nil_of_length_eq_zero (by omega)
            rw [hxs] at h1
            simpa using h1
          subst this
          cases A with
          | none => rfl
          | some a =>
            have := run_bytesToString (P := P) w a 0 c [] (by simp [loadCells, loadCellsFrom])
            rw [this]
            rfl
        · have hload := run_loadCells_list (P := P) w a xs hc
          rw [show xs.length = n by omega, hxs] at hload
          rw [run_bytesToString w a n c ns hload, hstr]
      · cases h
    · cases h
  · cases h

/-! ### Built-in functions -/
theorem len_sound {ts : Array TypeId} {ty : TypeId} {v r : V} {y : Value} {n : Nat} (hl : lenV v = some n) (hv : VR w g.S g.J H v y)
    (hu : (∃ e, (ts[0]?).bind P.underlying = some (.slice e) ∧ ∀ s, v ≠ .str s) ∨ ((ts[0]?).bind P.underlying = some .string ∧ ∃ s, v = .str s)) : (Builtin.len_ ts ty #[y]).run P w = .ok (.int .i64 (n : Int)) w := by
  rcases hu with ⟨e, hu, hns⟩ | ⟨hu, s, rfl⟩
  · obtain ⟨t, ht, hu⟩ := Option.bind_eq_some_iff.1 hu
    obtain ⟨A, c, rfl, _⟩ := hv.len_inv hl hns
    simp [Builtin.len_, ht, run_underlying hu, goInt]
  · obtain ⟨t, ht, hu⟩ := Option.bind_eq_some_iff.1 hu
    simp only [lenV, Option.some.injEq] at hl
    subst hl
    obtain rfl := hv.str_inv
    simp [Builtin.len_, ht, run_underlying hu, goInt]

theorem mm_sound {f : Int → Int → Int} {f2 : Value → Value → Sem Value} (hf : ∀ (k : IntKind) (a b : Int), (f2 (.int k a) (.int k b)).run P w = .ok (.int k (f a b)) w) : ∀ {vs : List V} {xs : List Value} {k : IntKind} {a : Int} {r : V},
    vs.length = xs.length → (∀ i (hi : i < vs.length) (hi' : i < xs.length), VR w g.S g.J H vs[i] xs[i]) →
    vs.foldlM (fun x y => match x, y with | .int k a, .int k' b => if k = k' then some (.int k (f a b)) else none | _, _ => none) (V.int k a) = some r → ∃ z, (xs.foldlM f2 (.int k a)).run P w = .ok z w ∧ VR w g.S g.J H r z
  | [], xs, k, a, r, hl, _, h => by
    have : xs = [] := List.eq_nil_of_length_eq_zero (by simpa using hl.symm)
    subst this
    simp at h
    subst h
    exact ⟨_, rfl, int_of⟩
  | v :: vs, [], _, _, _, hl, _, _ => by simp at hl
  | v :: vs, x :: xs, k, a, r, hl, hv, h => by
    rw [List.foldlM_cons] at h
    have h0 : VR w g.S g.J H v x := hv 0 (by simp) (by simp)
    cases v with
    | int k' b =>
      by_cases e : k = k'
      · subst e
        obtain rfl := h0.int_inv
        simp only [if_true, Option.bind_eq_bind, Option.bind_some] at h
        obtain ⟨z, hz, hr⟩ := mm_sound hf (xs := xs) (by simpa using hl) (fun i hi hi' => hv (i + 1) (by simpa using hi) (by simpa using hi')) h
        exact ⟨z, by simp [List.foldlM_cons, hf, hz], hr⟩
      · simp [e] at h
    | _ => simp at h
end

end Go.Proofs.Ytacfkfdnncgjcaa.Ev
end
