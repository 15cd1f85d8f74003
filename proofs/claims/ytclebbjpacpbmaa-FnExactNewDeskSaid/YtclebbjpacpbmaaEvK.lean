/- The abstract interpreter: stores, appends. Conditions: none. -/
import Derived.Test.YtclebbjpacpbmaaEvJ
set_option linter.unusedVariables false
set_option linter.unusedSimpArgs false
namespace Go.Proofs.Ytclebbjpacpbmaa.Ev
open Go

section
variable {B : Beg} {H : Nat → Option Ob} {w : World} {g : Gh} {P : Program} {b : Nat}

theorem nodup_of_nodupB : ∀ {l : List Nat}, nodupB l = true → l.Nodup
  | [], _ => List.nodup_nil
  | x :: xs, h => by
    simp only [nodupB, Bool.and_eq_true, Bool.not_eq_true', List.contains_eq_mem, decide_eq_false_iff_not] at h
    exact List.nodup_cons.2 ⟨h.1, nodup_of_nodupB h.2⟩

theorem eid_lv : ∀ (k : Nat) {v u : V}, expN H k v = some u → ∀ id, id ∈ eidN H k v → ∃ ob, H id = some ob ∧ ob.lv = 2 := by
  intro k
  induction k with
  | zero => intro v u h id hid; simp [eidN] at hid
  | succ k ih =>
    intro v u h id hid
    have lst : ∀ {cs us : List V}, cs.mapM (expN H k) = some us → ∀ id, id ∈ cs.flatMap (eidN H k) → ∃ ob, H id = some ob ∧ ob.lv = 2 := fun {cs us} hm id hid => by
      obtain ⟨c, hc, hid⟩ := List.mem_flatMap.1 hid
      obtain ⟨j, hj, rfl⟩ := List.getElem_of_mem hc
      exact ih (mapM_at hm j hj (by rw [mapM_len hm]; exact hj)) id hid
    cases v with
    | sl id0 ver off len =>
      simp only [expN] at h
      simp only [eidN] at hid
      split at h
      · rename_i ob hob
        simp only [hob] at hid
        split at h
        · rename_i hc
          obtain ⟨us, hus, _⟩ := Option.map_eq_some_iff.1 h
          rcases List.mem_cons.1 hid with rfl | hid
          · exact ⟨ob, (getO_some hob).1, hc.1⟩
          · exact lst hus id hid
        · cases h
      · cases h
    | agg cs =>
      simp only [expN] at h
      simp only [eidN] at hid
      obtain ⟨us, hus, _⟩ := Option.map_eq_some_iff.1 h
      exact lst hus id hid
    | tup cs =>
      simp only [expN] at h
      simp only [eidN] at hid
      obtain ⟨us, hus, _⟩ := Option.map_eq_some_iff.1 h
      exact lst hus id hid
    | _ => simp [eidN] at hid

/-- A value on its way into a row. -/
theorem mv1 (m : MR B H w g) {v : V} {x : Value} (h : VR w g.S g.J H v x) (hn : (mvC H v).2.Nodup) : ∃ fp, CR w g.S g.J H (mvC H v).1 x fp ∧ fp.Nodup ∧ ∀ b, b ∈ fp → ∃ id ob, id ∈ (mvC H v).2 ∧ H id = some ob ∧ 1 ≤ ob.lv ∧ b ∈ g.F id := by
  have plain : mvC H v = (v, []) → ∃ fp, CR w g.S g.J H (mvC H v).1 x fp ∧ fp.Nodup ∧ ∀ b, b ∈ fp → ∃ id ob, id ∈ (mvC H v).2 ∧ H id = some ob ∧ 1 ≤ ob.lv ∧ b ∈ g.F id := fun e => by
    rw [e]; exact ⟨[], .inl ⟨h, rfl⟩, List.nodup_nil, fun b hb => by cases hb⟩
  cases v with
  | sl id ver off len =>
    cases he : expN H depth (.sl id ver off len) with
    | none => exact plain (by simp only [mvC, he])
    | some u =>
      have e : mvC H (.sl id ver off len) = (u, eidN H depth (.sl id ver off len)) := by simp only [mvC, he]
      rw [e] at hn ⊢
      obtain ⟨fp, ht, hg⟩ := exp_sound m depth h he hn
      refine ⟨fp, .inr ht, hg.1, fun b hb => ?_⟩
      obtain ⟨i, hi, hF, _⟩ := hg.2 b hb
      obtain ⟨ob, ho, hl⟩ := eid_lv depth he i hi
      exact ⟨i, ob, hi, ho, by omega, hF⟩
  | _ => exact plain rfl

theorem mv_sound (m : MR B H w g) {vs : List V} {x : Nat → Value} (h : ∀ k (hk : k < vs.length), VR w g.S g.J H vs[k] (x k)) (hn : ((vs.map (mvC H)).flatMap (·.2)).Nodup) :
    ∃ fp : Nat → List Nat, (∀ k (hk : k < vs.length), CR w g.S g.J H (mvC H vs[k]).1 (x k) (fp k)) ∧ ((List.range vs.length).flatMap fp).Nodup ∧
      ∀ b, b ∈ (List.range vs.length).flatMap fp → ∃ id ob, id ∈ (vs.map (mvC H)).flatMap (·.2) ∧ H id = some ob ∧ 1 ≤ ob.lv ∧ b ∈ g.F id := by
  obtain ⟨n1, n2⟩ := nodup_flatMap_at hn
  have H1 : ∀ j, j < vs.length → ∃ f, ∀ (hj : j < vs.length), CR w g.S g.J H (mvC H vs[j]).1 (x j) f ∧ f.Nodup ∧ ∀ b, b ∈ f → ∃ id ob, id ∈ (mvC H vs[j]).2 ∧ H id = some ob ∧ 1 ≤ ob.lv ∧ b ∈ g.F id := fun j hj => by
    have := n1 j (by simpa using hj)
    simp only [List.getElem_map] at this
    obtain ⟨f, hf⟩ := mv1 m (h j hj) this
    exact ⟨f, fun _ => hf⟩
  obtain ⟨fp, hfp⟩ := choose_fp H1
  refine ⟨fp, fun k hk => (hfp k hk hk).1, nodup_fm.2 ⟨fun k hk => (hfp k hk hk).2.1, fun i j hij hj b hb hb' => ?_⟩, fun b hb => ?_⟩
  · obtain ⟨i1, o1, hi1, e1, _, f1⟩ := (hfp i (by omega) (by omega)).2.2 b hb
    obtain ⟨i2, o2, hi2, e2, _, f2⟩ := (hfp j hj hj).2.2 b hb'
    by_cases e : i1 = i2
    · subst e
      have := n2 i j (by simp; omega) (by simpa using hj) (by omega) i1
      simp only [List.getElem_map] at this
      exact this hi1 hi2
    · exact m.dj i1 i2 o1 o2 e e1 e2 b f1 f2
  · obtain ⟨k, hk, hb⟩ := mem_fm.1 hb
    obtain ⟨id, ob, hi, he, hl, hF⟩ := (hfp k hk hk).2.2 b hb
    exact ⟨id, ob, List.mem_flatMap.2 ⟨mvC H vs[k], List.mem_map.2 ⟨_, List.getElem_mem hk, rfl⟩, hi⟩, he, hl, hF⟩

theorem unfrozen {blk k : Nat} {arr : Array Value} {e : TypeId} {fr : Nat × Nat} (hb : w.heap[blk]? = some (.cells arr e fr)) (hz : unfz arr fr) (hk : k < arr.size) : w.frozen? ⟨blk, k, none⟩ = false := by
  obtain ⟨lo, hi⟩ := fr
  have := hz k hk
  simp only [World.frozen?, hb]
  simp only at this
  rw [Bool.and_eq_false_iff]
  simp only [decide_eq_false_iff_not]
  omega

theorem run_storeAt {t : TypeId} {n blk off : Nat} {y : Value} {arr : Array Value} {e : TypeId} {fr : Nat × Nat} (hz : szT P t = some n) (hn : y.cells.size = n) (hb : w.heap[blk]? = some (.cells arr e fr)) (hf : unfz arr fr) (hfit : off + n ≤ arr.size)
    (h1 : ∀ v, v ∈ y.cells.toList → v.oneCell' = true) : (Instr.storeAt t (.pointer (some ⟨blk, off, none⟩)) y).run P w = .ok () (w.setCells blk off y.cells.toList) := by
  have hl : y.cells.toList.length = n := by simpa using hn
  have := run_storeCells_cells (P := P) blk off y.cells.toList 0 w (fun j hj => by rw [Nat.add_zero, cell_at hb (by omega)]; rfl) (fun j hj => by rw [Nat.add_zero]; exact unfrozen hb hf (by omega)) h1
  rw [Nat.add_zero] at this
  simp only [Instr.storeAt, Instr.sureAddr, storeVar, Sem.run_bind, Sem.run_pure, Result.andThen_ok, run_sizeOf' hz, Sem.run_ite, hn, ne_eq, not_true_eq_false, if_false, this]

theorem store_sound (m : MR B H w g) {t : TypeId} {a x : V} {p y : Value} {d : D} (h : storeD P B.strict H t a x = some d) (ha : VR w g.S g.J H a p) (hx : VR w g.S g.J H x y) :
    d.v = .undef ∧ ∃ w' g', (Instr.storeAt t p y).run P w = .ok () w' ∧ Out B H w g b d Go.undef w' g' := by
  unfold storeD at h
  split at h
  · rename_i n vs id ver off hz hvs
    split at h
    · rename_i ob hob
      obtain ⟨hH, hver⟩ := getO_some hob
      obtain ⟨a0, rfl, hj, hp⟩ := ha.ptr_inv
      obtain ⟨blk, hJ, rfl⟩ := (hp ob hH).2 hver
      obtain ⟨arr, e, fr, fp0, hblk, hfz, hal, hcells, h1, hF⟩ := m.ob id ob _ hH hJ
      obtain ⟨hl, hc⟩ := cells_sound hvs hx
      have hbs : bsz w blk = arr.size := by simp only [bsz, hblk]
      split at h
      · rename_i hcond
        obtain ⟨c1, c2, c3⟩ := hcond
        have hone : ∀ v, v ∈ y.cells.toList → v.oneCell' = true := fun v hv => by
          obtain ⟨k, hk, rfl⟩ := List.getElem_of_mem hv
          have hk' : k < vs.length := by rw [hl]; simpa using hk
          have := (hc k hk').2
          have e : y.cells.getD k Go.undef = y.cells.toList[k] := by
            have : k < y.cells.size := by simpa using hk
            simp [Array.getD, this]
          rwa [e] at this
        have hrun := run_storeAt (P := P) (w := w) (t := t) (y := y) hz (by omega) hblk hfz (off := off) (by omega) hone
        have hget : ∀ k (hk : k < vs.length) (hk' : k < y.cells.toList.length), y.cells.getD k Go.undef = y.cells.toList[k] := fun k hk hk' => by
          have : k < y.cells.size := by simpa using hk'
          simp [Array.getD, this]
        have conclude : ∀ (gone : List Nat) (vs' : List V) (fp : Nat → List Nat) (rd : List Nat), id ∉ gone → vs'.length = vs.length → (∀ k (hk : k < vs'.length) (hk' : k < vs.length), CR w g.S g.J H vs'[k] (y.cells.getD k Go.undef) (fp k)) →
            ((List.range vs.length).flatMap fp).Nodup → (∀ c, c ∈ (List.range vs.length).flatMap fp → ∃ id ob, id ∈ gone ∧ H id = some ob ∧ 1 ≤ ob.lv ∧ c ∈ g.F id) →
            ∃ w' g', (Instr.storeAt t (.pointer (some ⟨blk, off, none⟩)) y).run P w = .ok () w' ∧ Out B H w g b { v := .undef, rd := rd, wr := (gone.map fun i => (i, none)) ++ [(id, some { ob with cells := setCs ob.cells off vs' })] } Go.undef w' g' := by
          intro gone vs' fp rd hg hlen hcr hn hf
          have hsl : (setCs ob.cells off vs').length = ob.cells.length := setCs_len (by omega)
          obtain ⟨g', hS, hJ', hm, hp'⟩ := m.write hH hJ c3 hg (off := off) (v' := ob.ver) (vs := vs') (cells' := setCs ob.cells off vs') (xs := y.cells.toList) fp (Nat.le_refl _) (by simp; omega) (by rw [hsl, hbs]; exact hal) (by rw [hbs]; omega)
            (fun k hk ho hk2 => setCs_in (by omega) hk ho hk2) (fun k hk hno => setCs_out (by omega) hk hno)
            (fun k hk hk' => by rw [← hget k (by omega) hk']; exact hcr k hk (by omega)) hone (by rw [hlen]; exact hn) (by rw [hlen]; exact hf)
          refine ⟨_, g', hrun, ⟨.pure .undef, hm, hp', fun i hi => ?_⟩⟩
          rw [hJ'] at hi
          by_cases e : i = id
          · subst e; exact .inl hj
          · rw [upd_ne _ _ _ _ e] at hi; exact .inl hi
        split at h
        · rename_i hlv
          simp only at h
          split at h
          · rename_i hg
            simp only [Option.some.injEq] at h
            subst h
            simp only [Bool.and_eq_true, Bool.not_eq_true', List.contains_eq_mem, decide_eq_false_iff_not] at hg
            obtain ⟨fp, q1, q2, q3⟩ := mv_sound m (fun k hk => (hc k hk).1) (nodup_of_nodupB hg.1)
            refine ⟨rfl, ?_⟩
            have := conclude ((vs.map (mvC H)).flatMap (·.2)) ((vs.map (mvC H)).map (·.1)) fp (id :: (vs.map (mvC H)).flatMap (·.2)) hg.2 (by simp) (fun k hk hk' => by simpa using q1 k hk') q2 q3
            obtain ⟨w', g', a1, a2⟩ := this
            exact ⟨w', g', a1, a2.okd _⟩
          · cases h
        · simp only [Option.some.injEq] at h
          subst h
          refine ⟨rfl, ?_⟩
          have := conclude [] vs (fun _ => []) [id] (by simp) rfl (fun k hk hk' => .inl ⟨(hc k hk).1, rfl⟩) (by rw [fm_nil]; exact List.nodup_nil) (fun c hc => by rw [fm_nil] at hc; cases hc)
          exact this
      · cases h
    · cases h
  · cases h
end

end Go.Proofs.Ytclebbjpacpbmaa.Ev
