/- The abstract interpreter: loads and stores. Conditions: none. -/
import Derived.Test.YtclebbjpacpbmaaEvI
set_option linter.unusedVariables false
set_option linter.unusedSimpArgs false
namespace Go.Proofs.Ytclebbjpacpbmaa.Ev
open Go

section
variable {B : Beg} {H : Nat → Option Ob} {w : World} {g : Gh} {P : Program} {b : Nat}

theorem VR.viewN {S : Nat → Prop} {J : Nat → Option (Option Nat)} {v u : V} {y : Value} {k : Nat} (h : VR w S J H v y) (e : viewN k v = some u) : u = v := by
  cases h with
  | pure h => cases h <;> cases k <;> simp [Ev.viewN] at e <;> exact e.symm
  | _ => cases k <;> simp [Ev.viewN] at e <;> exact e.symm

/-- A cell, as it is seen. -/
theorem CR.view {S S' : Nat → Prop} {J : Nat → Option (Option Nat)} {v u : V} {y : Value} {fp : List Nat} {k : Nat} (h : CR w S J H v y fp) (p : Pers w S J H w S' J H) (hfp : ∀ b, b ∈ fp → S' b) (e : Ev.viewN k v = some u) : VR w S' J H u y := by
  rcases h with ⟨h, _⟩ | h
  · have := h.viewN e
    subst this
    exact h.mono p
  · exact .pure (h.view p.hS hfp e)

theorem ld_und {t : TypeId} {ag : Bool} {n : Nat} (h : ldT P t = some (ag, n)) : aggT P t = some ag ∧ szT P t = some n := by
  unfold ldT at h
  cases ha : aggT P t with
  | none => simp [ha] at h
  | some a =>
    cases hz : szT P t with
    | none => simp [ha, hz] at h
    | some z =>
      simp [ha, hz] at h
      exact ⟨congrArg some h.1, congrArg some h.2⟩

theorem gen_getD {n k : Nat} {f : Nat → Value} (hk : k < n) : (((List.range n).map f).toArray).getD k Go.undef = f k := by
  simp [Array.getD, hk]

theorem run_loadAt_agg {t : TypeId} {n : Nat} {a : Addr} (f : Nat → Value) (ha : aggT P t = some true) (hz : szT P t = some n) (h : ∀ j, j < n → w.cell? (a.add j) = some (f j)) :
    (Instr.loadAt t (.pointer (some a))).run P w = .ok (.agg ((List.range n).map f).toArray) w := by
  simp [Instr.loadAt, Instr.sureAddr, loadVar, run_isAgg' ha, run_sizeOf' hz, run_loadCells w a n f h]
theorem run_loadAt_one {t : TypeId} {a : Addr} {v : Value} (ha : aggT P t = some false) (h : w.cell? a = some v) : (Instr.loadAt t (.pointer (some a))).run P w = .ok v w := by
  simp [Instr.loadAt, Instr.sureAddr, loadVar, run_isAgg' ha, h]

theorem setCs_len {cs vs : List V} {off : Nat} (h : off + vs.length ≤ cs.length) : (setCs cs off vs).length = cs.length := by
  simp [setCs]; omega
theorem setCs_in {cs vs : List V} {off k : Nat} (h : off + vs.length ≤ cs.length) (hk : k < (setCs cs off vs).length) (h1 : off ≤ k) (h2 : k - off < vs.length) : (setCs cs off vs)[k] = vs[k - off] := by
  have : (setCs cs off vs)[k]? = some vs[k - off] := by
    unfold setCs
    rw [List.append_assoc, List.getElem?_append_right (by simp; omega)]
    rw [List.getElem?_append_left (by simp; omega)]
    simp only [List.length_take, show min off cs.length = off by omega]
    exact List.getElem?_eq_getElem h2
  rw [List.getElem?_eq_getElem hk] at this
  injection this
theorem setCs_out {cs vs : List V} {off k : Nat} (h : off + vs.length ≤ cs.length) (hk : k < (setCs cs off vs).length) (h1 : ¬ (off ≤ k ∧ k < off + vs.length)) : ∃ h' : k < cs.length, (setCs cs off vs)[k] = cs[k] := by
  have hkl : k < cs.length := by rw [setCs_len h] at hk; exact hk
  refine ⟨hkl, ?_⟩
  have : (setCs cs off vs)[k]? = some cs[k] := by
    unfold setCs
    rw [List.append_assoc]
    by_cases e : k < off
    · rw [List.getElem?_append_left (by simp; omega), List.getElem?_take_of_lt e, List.getElem?_eq_getElem hkl]
    · rw [List.getElem?_append_right (by simp; omega), List.getElem?_append_right (by simp; omega), List.getElem?_drop]
      simp only [List.length_take, show min off cs.length = off by omega]
      rw [show off + vs.length + (k - off - vs.length) = k by omega]
      exact List.getElem?_eq_getElem hkl
  rw [List.getElem?_eq_getElem hk] at this
  injection this

/-- Cells of an object of the frame's own are seen. -/
theorem see_cells (m : MR B H w g) {id blk : Nat} {ob : Ob} (hH : H id = some ob) {arr : Array Value} {fp : Nat → List Nat} (hJ : g.J id = some (some blk)) (hc : ∀ k (hk : k < ob.cells.length), CR w g.S g.J H ob.cells[k] (arr.getD k Go.undef) (fp k))
    (h1 : ∀ k, k < ob.cells.length → (arr.getD k Go.undef).oneCell' = true) (hF : g.F id = blk :: (List.range ob.cells.length).flatMap fp) {off n : Nat} (hfit : off + n ≤ ob.cells.length) (hs : B.strict = true → ((ob.cells.drop off).take n).any hasU = false) :
    ∃ S', MR B H w ⟨g.J, S', g.F⟩ ∧ Pers w g.S g.J H w S' g.J H ∧ ∀ k, off ≤ k → k < off + n → ∀ b, b ∈ fp k → S' b := by
  have hnF := m.nd id ob hH
  rw [hF] at hnF
  obtain ⟨hbn, hnF⟩ := List.nodup_cons.1 hnF
  obtain ⟨r1, r2⟩ := m.see hH (fun b => ∃ k, off ≤ k ∧ k < off + n ∧ b ∈ fp k) (fun b ⟨k, k1, k2, hb⟩ => ⟨by rw [hF]; exact List.mem_cons_of_mem _ (mem_fm.2 ⟨k, by omega, hb⟩), fun e => by
    rw [hJ] at e
    injection e with e
    injection e with e
    subst e
    exact hbn (mem_fm.2 ⟨k, by omega, hb⟩)⟩) (fun hst b ⟨k, k1, k2, hb⟩ => by
    have hu := hs hst
    rw [List.any_eq_false] at hu
    have hk : k < ob.cells.length := by omega
    have hmem : ob.cells[k] ∈ (ob.cells.drop off).take n := by
      have hx : k - off < ((ob.cells.drop off).take n).length := by simp; omega
      obtain ⟨q1, q2⟩ := take_drop_at hx
      have := List.getElem_mem hx
      rw [q2 q1] at this
      simpa [show off + (k - off) = k by omega] using this
    have := (hc k hk).flat (by simpa using hu _ hmem) (h1 k hk)
    rw [this] at hb
    cases hb)
  exact ⟨_, r1, r2, fun k k1 k2 b hb => .inr ⟨k, k1, k2, hb⟩⟩

theorem load_sound (m : MR B H w g) (hb : ∀ id, b ≤ id → id < b + 64 → g.J id = none) {t : TypeId} {a : V} {y : Value} {d : D} (h : loadD P B.strict H b t a = some d) (ha : VR w g.S g.J H a y) :
    ∃ z g', (Instr.loadAt t y).run P w = .ok z w ∧ Out B H w g b d z w g' := by
  unfold loadD at h
  split at h
  · cases h
  · rename_i ag n hld
    obtain ⟨hag, hsz⟩ := ld_und hld
    split at h
    · -- an object of the frame's own
      rename_i id ver off
      split at h
      · rename_i ob hob
        obtain ⟨hH, hver⟩ := getO_some hob
        obtain ⟨a0, rfl, hj, hp⟩ := ha.ptr_inv
        obtain ⟨blk, hJ, rfl⟩ := (hp ob hH).2 hver
        obtain ⟨arr, e, fr, fp, hblk, hz, hal, hcells, h1, hF⟩ := m.ob id ob _ hH hJ
        have hnF := m.nd id ob hH
        rw [hF] at hnF
        obtain ⟨hbn, hnF'⟩ := List.nodup_cons.1 hnF
        obtain ⟨n1, n2⟩ := nodup_fm.1 hnF'
        -- what a part is worth, once its cells are taken in
        have taking : B.strict = true → ∀ (l : Nat) (seg : List V), seg.length = l → (∀ k (hk : k < seg.length), ∃ h, seg[k] = ob.cells[off + k]'h) → off + l ≤ ob.cells.length → l ≤ 64 → ob.lv ≠ 0 →
            ∃ g', (∀ k (hk : k < (adoptL b seg).1.length), VR w g'.S g'.J (appW H ((adoptL b seg).2 ++ [(id, some { ob with cells := setCs ob.cells off (adoptL b seg).1 })])) (adoptL b seg).1[k] (arr.getD (off + k) Go.undef)) ∧
              (adoptL b seg).1.length = l ∧
              MR B (appW H ((adoptL b seg).2 ++ [(id, some { ob with cells := setCs ob.cells off (adoptL b seg).1 })])) w g' ∧
              Pers w g.S g.J H w g'.S g'.J (appW H ((adoptL b seg).2 ++ [(id, some { ob with cells := setCs ob.cells off (adoptL b seg).1 })])) ∧
              (∀ i, g'.J i ≠ none → g.J i ≠ none ∨ (b ≤ i ∧ i < b + 64)) := by
          intro hst l seg hseg hsegc hfit hl64 hlv
          have hlv' : 1 ≤ ob.lv := by omega
          -- the container without them
          let anys : List V := List.replicate l .any
          have hal' : anys.length = l := List.length_replicate
          let fpA : Nat → List Nat := fun k => if off ≤ k ∧ k < off + l then [] else fp k
          have hidb : ¬ (b ≤ id ∧ id < b + 64) := fun hx => hj (hb id hx.1 hx.2)
          have fpA_sub : ∀ k, k < ob.cells.length → ∀ c, c ∈ fpA k → c ∈ fp k := fun k _ c hc => by
            by_cases e : off ≤ k ∧ k < off + l
            · simp only [fpA, e, and_self, if_true] at hc; cases hc
            · simp only [fpA, e, if_false] at hc; exact hc
          obtain ⟨mA, pA⟩ := m.put0 (x := id) (gone := []) (ob' := { ob with cells := setCs ob.cells off anys }) (jo' := some blk) (F' := blk :: (List.range (setCs ob.cells off anys).length).flatMap fpA) (w' := w)
            rfl rfl rfl (Nat.le_refl _) (fun _ _ => rfl) (fun _ _ => .inl rfl) (fun _ => ⟨ob, hH, .inr ⟨rfl, rfl, hJ.symm⟩⟩)
            (fun p => by
              have hll := setCs_len (cs := ob.cells) (vs := anys) (off := off) (by omega)
              refine ⟨arr, e, fr, fpA, hblk, hz, by rw [hll]; exact hal, fun k hk => ?_, fun k hk => h1 k (by rw [hll] at hk; exact hk), rfl⟩
              by_cases ek : off ≤ k ∧ k < off + l
              · have e1 := setCs_in (cs := ob.cells) (vs := anys) (off := off) (by omega) hk ek.1 (by omega)
                show CR _ _ _ _ (setCs ob.cells off anys)[k] _ (fpA k)
                rw [e1]
                simp only [fpA, ek, and_self, if_true, anys, List.getElem_replicate]
                exact .inl ⟨.any _, rfl⟩
              · obtain ⟨q1, q2⟩ := setCs_out (cs := ob.cells) (vs := anys) (off := off) (by omega) hk (by omega)
                show CR _ _ _ _ (setCs ob.cells off anys)[k] _ (fpA k)
                rw [q2]
                simp only [fpA, ek, if_false]
                exact (hcells k q1).mono p fun _ _ => rfl)
            (by
              have hll := setCs_len (cs := ob.cells) (vs := anys) (off := off) (by omega)
              rw [hll]
              refine List.nodup_cons.2 ⟨fun h => ?_, nodup_fm.2 ⟨fun k hk => ?_, fun i j hij hjl c hc hc' => n2 i j hij hjl c (fpA_sub i (by omega) c hc) (fpA_sub j hjl c hc')⟩⟩
              · obtain ⟨k, hk, h⟩ := mem_fm.1 h
                exact hbn (mem_fm.2 ⟨k, hk, fpA_sub k hk _ h⟩)
              · by_cases e : off ≤ k ∧ k < off + l
                · simp only [fpA, e, and_self, if_true]; exact List.nodup_nil
                · simp only [fpA, e, if_false]; exact n1 k hk)
            (fun hl c hc => by injection hc with hc; subst hc; exact m.mu id ob _ hH hl hJ)
            (fun hst hl c hc => m.ms hst id ob hH hl c (by
              rw [hF]
              rcases List.mem_cons.1 hc with rfl | hc
              · exact List.mem_cons_self ..
              · obtain ⟨k, hk, hc⟩ := mem_fm.1 hc
                rw [setCs_len (by omega)] at hk
                exact List.mem_cons_of_mem _ (mem_fm.2 ⟨k, hk, fpA_sub k hk _ hc⟩)))
            (fun c hc => m.new id ob hH c (by
              rw [hF]
              rcases List.mem_cons.1 hc with rfl | hc
              · exact List.mem_cons_self ..
              · obtain ⟨k, hk, hc⟩ := mem_fm.1 hc
                rw [setCs_len (by omega)] at hk
                exact List.mem_cons_of_mem _ (mem_fm.2 ⟨k, hk, fpA_sub k hk _ hc⟩)))
            (fun i2 o2 hne _ h2' c hc => m.dj id i2 ob o2 (Ne.symm hne) hH h2' c (by
              rw [hF]
              rcases List.mem_cons.1 hc with rfl | hc
              · exact List.mem_cons_self ..
              · obtain ⟨k, hk, hc⟩ := mem_fm.1 hc
                rw [setCs_len (by omega)] at hk
                exact List.mem_cons_of_mem _ (mem_fm.2 ⟨k, hk, fpA_sub k hk _ hc⟩)))
          have hJA : ∀ i, i ≠ id → upd g.J id (some (some blk)) i = g.J i := fun i hi => upd_ne _ _ _ _ hi
          have hlA : (setCs ob.cells off anys).length = ob.cells.length := setCs_len (by omega)
          obtain ⟨g2, t2, l2, v2⟩ := adoptL_sound seg b mA (fun k => arr.getD (off + k) Go.undef) (fun k => fp (off + k))
            (fun i i1 i2 => by
              show upd g.J id (some (some blk)) i = none
              rw [hJA i (fun e => hidb (by subst e; omega))]; exact hb i i1 (by omega))
            (fun k hk => by
              obtain ⟨hx, ex⟩ := hsegc k hk
              rw [ex]; exact (hcells (off + k) hx).mono pA fun _ _ => rfl)
            (fun k hk => h1 (off + k) (by omega)) (fun k hk => n1 (off + k) (by omega)) (fun i j hij hj => n2 (off + i) (off + j) (by omega) (by omega))
            (fun k hk c hc => by
              have hcF : c ∈ g.F id := by rw [hF]; exact List.mem_cons_of_mem _ (mem_fm.2 ⟨off + k, by omega, hc⟩)
              refine ⟨m.new id ob hH c hcF, fun i2 o2 h2' hc2 => ?_, m.ms hst id ob hH hlv' c hcF⟩
              by_cases e : i2 = id
              · subst e
                simp only [upd_same] at hc2
                rcases List.mem_cons.1 hc2 with rfl | hc2
                · exact hbn (mem_fm.2 ⟨off + k, by omega, hc⟩)
                · obtain ⟨j, hj, hc2⟩ := mem_fm.1 hc2
                  by_cases e : off ≤ j ∧ j < off + l
                  · simp only [fpA, e, and_self, if_true] at hc2; cases hc2
                  · simp only [fpA, e, if_false] at hc2
                    rcases Nat.lt_or_ge j (off + k) with hlt | hge
                    · exact n2 j (off + k) hlt (by omega) c hc2 hc
                    · exact n2 (off + k) j (by omega) (by omega) c hc hc2
              · simp only [upd_ne _ _ _ _ e] at hc2
                rw [appW_put, if_neg e] at h2'
                simp only [List.not_mem_nil, if_false] at h2'
                exact m.dj id i2 ob o2 (Ne.symm e) hH h2' c hcF hc2)
          obtain ⟨o1, o2, o3⟩ := t2.out id (by rw [hseg]; omega)
          have hH2 : appW (appW H (([].map fun i => (i, (none : Option Ob))) ++ [(id, some { ob with cells := setCs ob.cells off anys })])) (adoptL b seg).2 id = some { ob with cells := setCs ob.cells off anys } := by
            rw [o3, appW_put, if_pos rfl]
          have hF2 : g2.F id = blk :: (List.range (setCs ob.cells off anys).length).flatMap fpA := by rw [o2]; exact upd_same ..
          have hJ2 : g2.J id = some (some blk) := by rw [o1]; exact upd_same ..
          have m2 := t2.m
          have lenR : (adoptL b seg).1.length = l := by omega
          have hlR : (setCs ob.cells off (adoptL b seg).1).length = ob.cells.length := setCs_len (by omega)
          obtain ⟨m3, p3⟩ := m2.put0 (x := id) (gone := []) (ob' := { ob with cells := setCs ob.cells off (adoptL b seg).1 }) (jo' := some blk) (F' := blk :: (List.range (setCs ob.cells off (adoptL b seg).1).length).flatMap fpA) (w' := w)
            rfl rfl rfl (Nat.le_refl _) (fun _ _ => rfl) (fun _ _ => .inl rfl) (fun _ => ⟨_, hH2, .inr ⟨rfl, rfl, hJ2.symm⟩⟩)
            (fun p => by
              refine ⟨arr, e, fr, fpA, hblk, hz, by rw [hlR]; exact hal, fun k hk => ?_, fun k hk => h1 k (by rw [hlR] at hk; exact hk), rfl⟩
              by_cases ek : off ≤ k ∧ k < off + l
              · have e1 := setCs_in (cs := ob.cells) (vs := (adoptL b seg).1) (off := off) (by omega) hk ek.1 (by omega)
                show CR _ _ _ _ (setCs ob.cells off (adoptL b seg).1)[k] _ (fpA k)
                rw [e1]
                simp only [fpA, ek, and_self, if_true]
                have := v2 (k - off) (by omega)
                rw [show off + (k - off) = k by omega] at this
                exact .inl ⟨this.mono p, rfl⟩
              · obtain ⟨q1, q2⟩ := setCs_out (cs := ob.cells) (vs := (adoptL b seg).1) (off := off) (by omega) hk (by omega)
                show CR _ _ _ _ (setCs ob.cells off (adoptL b seg).1)[k] _ (fpA k)
                rw [q2]
                simp only [fpA, ek, if_false]
                exact (hcells k q1).mono ((pA.trans t2.p).trans p) fun _ _ => rfl)
            (by rw [hlR, ← hlA, ← hF2]; exact m2.nd id _ hH2)
            (fun hl c hc => by injection hc with hc; subst hc; exact m2.mu id _ _ hH2 hl hJ2)
            (fun hst hl c hc => m2.ms hst id _ hH2 hl c (by rw [hF2, hlA, ← hlR]; exact hc))
            (fun c hc => m2.new id _ hH2 c (by rw [hF2, hlA, ← hlR]; exact hc))
            (fun i2 o2' hne _ h2' c hc => m2.dj id i2 _ o2' (Ne.symm hne) hH2 h2' c (by rw [hF2, hlA, ← hlR]; exact hc))
          have hHe : appW (appW (appW H (([].map fun i => (i, (none : Option Ob))) ++ [(id, some { ob with cells := setCs ob.cells off anys })])) (adoptL b seg).2) (([].map fun i => (i, (none : Option Ob))) ++ [(id, some { ob with cells := setCs ob.cells off (adoptL b seg).1 })]) =
              appW H ((adoptL b seg).2 ++ [(id, some { ob with cells := setCs ob.cells off (adoptL b seg).1 })]) := by
            funext i
            rw [appW_put, appW_append (adoptL b seg).2]
            simp only [appW, upd, List.not_mem_nil, if_false]
            by_cases e : i = id
            · simp [e]
            · simp only [e, if_false]
              exact appW_congr _ _ _ i (by simp [appW, upd, e])
          rw [hHe] at m3 p3
          refine ⟨_, fun k hk => ?_, lenR, m3, (pA.trans t2.p).trans p3, fun i hi => ?_⟩
          · exact (v2 k hk).mono p3
          · by_cases e : i = id
            · subst e; exact .inl hj
            · have hi' : upd g2.J id (some (some blk)) i ≠ none := hi
              rw [upd_ne _ _ _ _ e] at hi'
              by_cases e2 : b ≤ i ∧ i < b + 64
              · exact .inr e2
              · rw [(t2.out i (by rw [hseg]; omega)).1] at hi'
                left
                have : upd g.J id (some (some blk)) i ≠ none := hi'
                rwa [upd_ne _ _ _ _ e] at this
        have hcell : ∀ j, off + j < ob.cells.length → w.cell? ((⟨blk, off, none⟩ : Addr).add j) = some (arr.getD (off + j) Go.undef) := fun j hj => by
          rw [addr_add]; exact cell_at hblk (by omega)
        cases ag with
        | true =>
          simp only [if_true] at h
          split at h
          · rename_i hfit
            have hlen : ((ob.cells.drop off).take n).length = n := by simp; omega
            have hrun := run_loadAt_agg (P := P) (w := w) (t := t) (a := ⟨blk, off, none⟩) (fun j => arr.getD (off + j) Go.undef) hag hsz fun j hj => hcell j (by omega)
            have hone : ∀ k, k < n → ((((List.range n).map fun j => arr.getD (off + j) Go.undef).toArray).getD k Go.undef).oneCell' = true := fun k hk => by
              rw [gen_getD hk]; exact h1 _ (by omega)
            split at h
            · rename_i hst
              simp only [Bool.and_eq_true] at hst
              split at h
              · rename_i hc
                injection h with h
                subst h
                obtain ⟨g', v', l', m', p', i'⟩ := taking hst.1 n ((ob.cells.drop off).take n) hlen (fun k hk => ⟨_, (take_drop_at hk).2 (take_drop_at hk).1⟩) hfit hc.1 hc.2
                refine ⟨_, g', hrun, ⟨.agg (by simp [l']) (fun k hk => ?_) (fun k hk => hone k (by omega)), m', p', i'⟩⟩
                rw [gen_getD (by omega)]
                exact v' k hk
              · cases h
            · rename_i hst
              obtain ⟨us, hus, rfl⟩ := Option.map_eq_some_iff.1 h
              have hl := mapM_len hus
              obtain ⟨S', m', p', hsee⟩ := see_cells m hH hJ hcells h1 hF hfit (fun hs => by simpa [hs] using hst)
              refine ⟨_, ⟨g.J, S', g.F⟩, hrun, ⟨.agg (by simp; omega) (fun k hk => ?_) (fun k hk => hone k (by omega)), m', p', fun i hi => .inl hi⟩⟩
              have hk2 : k < ((ob.cells.drop off).take n).length := by omega
              obtain ⟨q1, q2⟩ := take_drop_at hk2
              have hvk := mapM_at hus k hk2 hk
              rw [q2 q1] at hvk
              rw [gen_getD (by omega)]
              exact (hcells (off + k) q1).view p' (fun c hc => hsee (off + k) (by omega) (by omega) c hc) hvk
          · cases h
        | false =>
          simp only [Bool.false_eq_true, if_false] at h
          obtain ⟨c, hc, h⟩ := Option.bind_eq_some_iff.1 h
          obtain ⟨ho, rfl⟩ := List.getElem?_eq_some_iff.1 hc
          have hrun := run_loadAt_one (P := P) (w := w) (t := t) (a := ⟨blk, off, none⟩) (v := arr.getD off Go.undef) hag (by
            have := hcell 0 (by omega)
            rw [addr_add] at this
            exact this)
          split at h
          · rename_i hst
            simp only [Bool.and_eq_true] at hst
            split at h
            · rename_i hlv
              injection h with h
              subst h
              obtain ⟨g', v', l', m', p', i'⟩ := taking hst.1 1 [ob.cells[off]] rfl (fun k hk => by
                have : k = 0 := by simpa using hk
                subst this
                exact ⟨ho, rfl⟩) (by omega) (by omega) hlv
              refine ⟨_, g', hrun, ⟨?_, m', p', i'⟩⟩
              have := v' 0 (by omega)
              rw [Nat.add_zero] at this
              exact this
            · cases h
          · rename_i hst
            obtain ⟨u, hu, rfl⟩ := Option.map_eq_some_iff.1 h
            obtain ⟨S', m', p', hsee⟩ := see_cells m hH hJ hcells h1 hF (off := off) (n := 1) (by omega) (fun hs => by
              rw [List.any_eq_false]
              intro x hx
              obtain ⟨k, hk, rfl⟩ := List.getElem_of_mem hx
              obtain ⟨q1, q2⟩ := take_drop_at hk
              have : k = 0 := by simp at hk; omega
              subst this
              rw [q2 q1]
              simpa [hs] using hst)
            exact ⟨_, ⟨g.J, S', g.F⟩, hrun, ⟨(hcells off ho).view p' (fun c hc => hsee off (by omega) (by omega) c hc) hu, m', p', fun i hi => .inl hi⟩⟩
      · cases h
    · -- what is only read
      rename_i cs off
      obtain ⟨ad, f, rfl, hS, hd, hp, hone⟩ := ha.ref_inv
      cases ag with
      | true =>
        simp only [if_true] at h
        split at h
        · rename_i hfit
          simp only [ret, Option.some.injEq] at h
          subst h
          have hlen : ((cs.drop off).take n).length = n := by simp; omega
          have hrun := run_loadAt_agg (P := P) (w := w) (t := t) (a := ad.add off) (fun j => f (off + j)) hag hsz fun j hj => by rw [add_add]; exact hd _ (by omega)
          refine ⟨_, g, hrun, .same m rfl (.pure (.agg (by simp; omega) (fun k hk => ?_) fun k hk => ?_))⟩
          · obtain ⟨q1, q2⟩ := take_drop_at hk
            rw [gen_getD (by omega), q2 q1]
            exact hp _ q1
          · rw [gen_getD (by omega)]; exact hone _ (by omega)
        · cases h
      | false =>
        simp only [Bool.false_eq_true, if_false] at h
        obtain ⟨c, hc, h⟩ := Option.bind_eq_some_iff.1 h
        obtain ⟨ho, rfl⟩ := List.getElem?_eq_some_iff.1 hc
        simp only [ret, Option.some.injEq] at h
        subst h
        exact ⟨_, g, run_loadAt_one hag (hd off ho), .same m rfl (.pure (hp off ho))⟩
    · cases h
end

end Go.Proofs.Ytclebbjpacpbmaa.Ev
