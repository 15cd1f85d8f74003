/- The abstract interpreter: copies, literals, conversions, built-in functions. Conditions: none. -/
import Derived.Test.YtclebbjpacpbmaaEvL
set_option linter.unusedVariables false
set_option linter.unusedSimpArgs false
namespace Go.Proofs.Ytclebbjpacpbmaa.Ev
open Go

section
variable {B : Beg} {H : Nat → Option Ob} {w : World} {g : Gh} {P : Program} {b : Nat}

theorem appW_self {id : Nat} {ob : Ob} (h : H id = some ob) : appW H [(id, some ob)] = H := by
  funext i
  simp only [appW, upd]
  split
  · rename_i e; rw [e, h]
  · rfl

theorem copy_sound (m : MR B H w g) {t t2 ty : TypeId} {dv sv : V} {x y : Value} {d : D} (h : copyD P H t dv sv = some d) (hd : VR w g.S g.J H dv x) (hs : VR w g.S g.J H sv y) :
    ∃ z w' g', (Builtin.copy_ #[t, t2] ty #[x, y]).run P w = .ok z w' ∧ Out B H w g b d z w' g' := by
  unfold copyD at h
  split at h
  · cases h
  · rename_i e sz bytes hsl
    obtain ⟨hu, i, hi, rfl, rfl⟩ := sl_und hsl
    split at h
    · rename_i id ver off len
      split at h
      · rename_i ob hob
        obtain ⟨hH, hver⟩ := getO_some hob
        split at h
        · rename_i cs ids n hseg hlen
          simp only at h
          split at h
          · rename_i hcond
            obtain ⟨c1, c2, c3, c4⟩ := hcond
            simp only [Option.some.injEq] at h
            subst h
            obtain ⟨A, c, rfl, hj, hlc, hcm, hA0, hp⟩ := hd.sl_inv
            -- sizes of nothing
            have segm : ∃ (A' : Option Addr) (c' : Nat) (xs : List Value) (fp : Nat → List Nat), y = .slice A' n c' ∧ xs.length = min n len * i.size ∧ (cs.take (min n len * i.size)).length = xs.length ∧
                (∀ k (hk : k < (cs.take (min n len * i.size)).length) (hk' : k < xs.length), CR w g.S g.J H (cs.take (min n len * i.size))[k] xs[k] []) ∧ (∀ v, v ∈ xs → v.oneCell' = true) ∧
                (Builtin.firstCells i.size (min n len) y).run P w = .ok xs.toArray w := by
              rcases Nat.eq_zero_or_pos i.size with hz | hz
              · have hcs : ∃ A' c', y = .slice A' n c' := by
                  unfold segV at hseg
                  split at hseg
                  · simp only [lenV, Option.some.injEq] at hlen; subst hlen; obtain ⟨A', rfl⟩ := hs.nils_inv; exact ⟨_, _, rfl⟩
                  · simp only [lenV, Option.some.injEq] at hlen; subst hlen; obtain ⟨A', c', f, rfl, _⟩ := hs.list_inv; exact ⟨_, _, rfl⟩
                  · simp only [lenV, Option.some.injEq] at hlen; subst hlen; obtain ⟨A', c', rfl, _⟩ := hs.sl_inv; exact ⟨_, _, rfl⟩
                  · cases hseg
                obtain ⟨A', c', rfl⟩ := hcs
                refine ⟨A', c', [], fun _ => [], rfl, by simp [hz], by simp [hz], fun k hk hk' => by simp at hk', fun v hv => (by cases hv), ?_⟩
                rw [hz]
                cases A' <;> simp [Builtin.firstCells, loadCells, loadCellsFrom]
              · obtain ⟨A', c', xs, fp, rfl, hnc, _, hxl, hsg, hA', _⟩ := seg_sound m hz hseg hlen hs
                have hle : min n len * i.size ≤ n * i.size := Nat.mul_le_mul_right _ (Nat.min_le_left ..)
                refine ⟨A', c', xs.take (min n len * i.size), fp, rfl, by simp; omega, by simp [hsg.len], fun k hk hk' => ?_, fun v hv => hsg.one v (List.mem_of_mem_take hv), ?_⟩
                · simp only [List.getElem_take]
                  have hk2 : k < cs.length := by simp at hk; omega
                  have hk3 : k < xs.length := by rw [← hsg.len]; exact hk2
                  have hu' := List.any_eq_false.1 c4 _ (List.getElem_mem hk)
                  simp only [List.getElem_take] at hu'
                  have hcr := hsg.cr k hk2 hk3
                  have hf := hcr.flat (by simpa using hu') (hsg.one _ (List.getElem_mem hk3))
                  rw [hf] at hcr
                  exact hcr
                · rcases hA' with hA' | ⟨a, rfl, hc⟩
                  · subst hA'
                    have : xs.take (min 0 len * i.size) = [] := by simp
                    rw [this]
                    cases A' <;> simp [Builtin.firstCells, loadCells, loadCellsFrom]
                  · have := run_loadCells_list (P := P) w a (xs.take (min n len * i.size)) (fun j v hv => by
                      rw [List.getElem?_take] at hv
                      split at hv
                      · exact hc j v hv
                      · cases hv)
                    rw [show (xs.take (min n len * i.size)).length = min n len * i.size by simp; omega] at this
                    simp only [Builtin.firstCells, this]
            obtain ⟨A', c', xs, fp, rfl, hxl, htl, hcr, hone, hfirst⟩ := segm
            have hsize : (sizeOf e).run P w = .ok i.size w := by simp [sizeOf, typeInfo, hi]
            rcases (hp ob hH).2 hver with ⟨hc0, hl0, _⟩ | ⟨hc1, blk, hJ, rfl, hcap⟩
            · subst hc0; subst hl0
              have hx0 : xs = [] := List.eq_nil_of_length_eq_zero (by simpa using hxl)
              subst hx0
              have hct : cs.take (min n 0 * i.size) = [] := by simp
              have hfirst' : (Builtin.firstCells i.size 0 (.slice A' n c')).run P w = .ok #[] w := by simpa using hfirst
              have e1 : ({ ob with cells := setCs ob.cells off (cs.take (min n 0 * i.size)) } : Ob) = ob := by
                rw [hct]
                simp [setCs]
              refine ⟨.int .i64 0, w, g, ?_, ?_⟩
              · cases A <;> simp [Builtin.copy_, run_underlying hu, Builtin.lenOf, hsize, hfirst', storeCells, goInt]
              · have e2 : appW H [(id, some { ob with cells := setCs ob.cells off (cs.take (min n 0 * i.size)) })] = H := by rw [e1]; exact appW_self hH
                exact ⟨by show VR _ _ _ (appW H [(id, _)]) _ _; rw [e2]; simpa using int_of, by show MR B (appW H [(id, _)]) _ _; rw [e2]; exact m, by show Pers _ _ _ _ _ _ _ (appW H [(id, _)]); rw [e2]; exact .refl .., fun j hj => .inl hj⟩
            · obtain ⟨arr, e', fr, fp0, hblk, hfz, hal, hcells, h1, hF⟩ := m.ob id ob _ hH hJ
              have hbs : bsz w blk = arr.size := by simp only [bsz, hblk]
              have hle : min n len * i.size ≤ len * i.size := Nat.mul_le_mul_right _ (Nat.min_le_right ..)
              have hfit : off + (cs.take (min n len * i.size)).length ≤ ob.cells.length := by rw [htl, hxl]; omega
              have hst := run_storeCells_cells (P := P) blk off xs 0 w (fun j hj => by rw [Nat.add_zero, cell_at hblk (by omega)]; rfl) (fun j hj => by rw [Nat.add_zero]; exact unfrozen hblk hfz (by omega)) hone
              rw [Nat.add_zero] at hst
              have hsl : (setCs ob.cells off (cs.take (min n len * i.size))).length = ob.cells.length := setCs_len hfit
              obtain ⟨g', hS', hJ', hm', hp'⟩ := m.write hH hJ c1 (gone := []) (by simp) (off := off) (v' := ob.ver) (vs := cs.take (min n len * i.size)) (cells' := setCs ob.cells off (cs.take (min n len * i.size))) (xs := xs) (fun _ => []) (Nat.le_refl _) htl (by rw [hsl, hbs]; exact hal) (by rw [hbs]; omega)
                (fun k hk ho hk2 => setCs_in hfit hk ho hk2) (fun k hk hno => setCs_out hfit hk hno) (fun k hk hk' => hcr k hk hk') hone (by rw [fm_nil]; exact List.nodup_nil) (fun c hc => by rw [fm_nil] at hc; cases hc)
              refine ⟨.int .i64 (min n len : Nat), _, g', ?_, ⟨int_of, hm', hp', fun j hjj => ?_⟩⟩
              · have hmin : Nat.min n len = min n len := rfl
                simp [Builtin.copy_, run_underlying hu, Builtin.lenOf, hsize, hmin, hfirst, hst, goInt]
              · rw [hJ'] at hjj
                by_cases e : j = id
                · subst e; exact .inl hj
                · rw [upd_ne _ _ _ _ e] at hjj; exact .inl hjj
          · cases h
        · cases h
      · cases h
    · cases h

/-! ### Literals -/
inductive PartsR (w : World) (S : Nat → Prop) (J : Nat → Option (Option Nat)) (H : Nat → Option Ob) : List (Nat × V) → List (Nat × Value) → Prop
  | nil : PartsR w S J H [] []
  | cons (i : Nat) {v : V} {x : Value} {ps : List (Nat × V)} {qs : List (Nat × Value)} (h : VR w S J H v x) (t : PartsR w S J H ps qs) : PartsR w S J H ((i, v) :: ps) ((i, x) :: qs)

theorem foldl_putA (off : Nat) : ∀ (l : List Value) (s : Nat) (cs : Array Value), (l.zipIdx s).foldl (fun cs (x : Value × Nat) => cs.setIfInBounds (off + x.2) x.1) cs = putA cs (off + s) l
  | [], s, cs => rfl
  | v :: l, s, cs => by
    simp only [List.zipIdx_cons, List.foldl_cons, putA]
    rw [foldl_putA off l (s + 1)]
    rfl

theorem fill_sound {S : Nat → Prop} {J : Nat → Option (Option Nat)} {place place' : Nat → Option (Nat × Nat)} (hp : ∀ i, place i = place' i) : ∀ {ps : List (Nat × V)} {qs : List (Nat × Value)} {cells cs : List V} {arr : Array Value},
    PartsR w S J H ps qs → cells.length = arr.size → (∀ k (hk : k < cells.length), VR w S J H cells[k] (arr.getD k Go.undef) ∧ (arr.getD k Go.undef).oneCell' = true) → fillV place cells ps = some cs →
    ∃ arr', Instr.fill place' arr qs = some arr' ∧ cs.length = arr'.size ∧ ∀ k (hk : k < cs.length), VR w S J H cs[k] (arr'.getD k Go.undef) ∧ (arr'.getD k Go.undef).oneCell' = true := by
  intro ps qs cells cs arr hr
  induction hr generalizing cells arr with
  | nil =>
    intro hl hc h
    simp only [fillV, Option.some.injEq] at h
    subst h
    exact ⟨arr, rfl, hl, hc⟩
  | @cons i v x ps qs hv ht ih =>
    intro hl hc h
    simp only [fillV] at h
    split at h
    · rename_i off size vs hpl hvs
      split at h
      · rename_i hcond
        obtain ⟨hvl, hvc⟩ := cells_sound hvs hv
        have hfit : off + vs.length ≤ cells.length := by omega
        have hput : (setCs cells off vs).length = (putA arr off x.cells.toList).size := by rw [setCs_len hfit, putA_size]; exact hl
        have e : cells.take off ++ vs ++ cells.drop (off + size) = setCs cells off vs := by rw [← hcond.1]; rfl
        rw [e] at h
        have hxl : x.cells.toList.length = vs.length := by rw [hvl]; simp
        obtain ⟨arr', h1, h2, h3⟩ := ih hput (fun k hk => by
          by_cases ek : off ≤ k ∧ k < off + vs.length
          · rw [setCs_in hfit hk ek.1 (by omega)]
            have := putA_in x.cells.toList off arr (k - off) (by omega) (by omega)
            rw [show off + (k - off) = k by omega] at this
            rw [this]
            have hg := hvc (k - off) (by omega)
            have e2 : x.cells.getD (k - off) Go.undef = x.cells.toList[k - off]'(by omega) := by
              have : k - off < x.cells.size := by omega
              simp [Array.getD, this]
            rw [e2] at hg
            exact hg
          · obtain ⟨q1, q2⟩ := setCs_out hfit hk ek
            rw [q2, putA_out _ _ _ _ (by rw [hxl]; exact ek)]
            exact hc k q1) h
        refine ⟨arr', ?_, h2, h3⟩
        unfold Instr.fill
        rw [← hp i, hpl]
        simp only
        have hn : (x.cells.size ≠ size || off + x.cells.size > arr.size) = false := by
          simp
          omega
        rw [hn]
        simp only [Bool.false_eq_true, if_false]
        rw [← h1]
        congr 1
        rw [← Array.foldl_toList, Array.toList_zipIdx]
        have := foldl_putA off x.cells.toList 0 arr
        rw [Nat.add_zero] at this
        exact this
      · cases h
    · cases h

theorem fill_size {place : Nat → Option (Nat × Nat)} : ∀ {qs : List (Nat × Value)} {arr arr' : Array Value}, Instr.fill place arr qs = some arr' → arr'.size = arr.size
  | [], arr, arr', h => by simp [Instr.fill] at h; rw [h]
  | (i, v) :: qs, arr, arr', h => by
    unfold Instr.fill at h
    split at h
    · cases h
    · simp only at h
      split at h
      · cases h
      · rw [fill_size h, ← Array.foldl_toList, Array.toList_zipIdx]
        have := foldl_putA
        rename_i off size _ _
        have := foldl_putA off v.cells.toList 0 arr
        rw [this, putA_size]

theorem parts_sound {S : Nat → Prop} {J : Nat → Option (Option Nat)} {fr : Nat → V} {a : Act} (sl : ∀ t, VR w S J H (fr t) (a.tmps.getD t Go.undef)) : ∀ {ps : List (Nat × Operand)} {vs : List (Nat × V)},
    ps.mapM (fun p => (ev fr p.2).map fun v => (p.1, v)) = some vs → PartsR w S J H vs (ps.map fun (i, x) => (i, a.eval x))
  | [], vs, h => by simp at h; subst h; exact .nil
  | (i, x) :: ps, vs, h => by
    obtain ⟨u, r, h1, h2, rfl⟩ := mapM_cons_some h
    obtain ⟨v, hv, rfl⟩ := Option.map_eq_some_iff.1 h1
    exact .cons i (ev_sound sl hv) (parts_sound sl h2)

theorem places_at {fs : List Field} : ∀ {places : List (Nat × Nat)}, fs.mapM (fun f => (P.info? f.type).map fun i => (f.offset, i.size)) = some places → ∀ i : Nat, places[i]? = match fs[i]? with
    | some x => (szT P x.type).map fun s => (x.offset, s)
    | none => none := by
  intro places h i
  have hl := mapM_len h
  cases hi : fs[i]? with
  | none =>
    have : fs.length ≤ i := List.getElem?_eq_none_iff.1 hi
    simp only
    exact List.getElem?_eq_none (by omega)
  | some x =>
    obtain ⟨h1, rfl⟩ := List.getElem?_eq_some_iff.1 hi
    have := mapM_at h i h1 (by omega)
    rw [List.getElem?_eq_getElem (by omega), ← this]
    simp only [szT, Option.map_map]
    rfl

theorem build_sound {S : Nat → Prop} {J : Nat → Option (Option Nat)} {fr : Nat → V} {a : Act} (sl : ∀ t, VR w S J H (fr t) (a.tmps.getD t Go.undef)) {t : TypeId} {ps : Array (Nat × Operand)} {z cs : List V} {vs : List (Nat × V)}
    (hz : zeroT P t = some z) (hag : aggT P t = some true) (hvs : ps.toList.mapM (fun p => (ev fr p.2).map fun v => (p.1, v)) = some vs) (hpl : plAll P t = true) (hf : fillV (plT P t) z vs = some cs) :
    ∃ x, (Instr.build t (ps.map fun (i, x) => (i, a.eval x))).run P w = .ok x w ∧ VR w S J H (.agg cs) x := by
  obtain ⟨it, zv, hi, hzv, hl, hc⟩ := zero_sound (w := w) (g := ⟨J, S, fun _ => []⟩) hz
  obtain ⟨d, hd, hdd⟩ := und_agg hag
  have hparts := parts_sound sl hvs
  have conclude : ∀ {place' : Nat → Option (Nat × Nat)}, (∀ i, plT P t i = place' i) → (∀ arr', Instr.fill place' zv.cells (ps.map fun (i, x) => (i, a.eval x)).toList = some arr' → P.built t (ps.map fun (i, x) => (i, a.eval x)).toList = some arr') →
      ∃ x, (Instr.build t (ps.map fun (i, x) => (i, a.eval x))).run P w = .ok x w ∧ VR w S J H (.agg cs) x := by
    intro place' hp hb
    obtain ⟨arr', h1, h2, h3⟩ := fill_sound hp hparts hl (fun k hk => ⟨.pure (hc k hk).1, (hc k hk).2⟩) hf
    rw [Array.toList_map] at hb
    refine ⟨_, run_build w t _ _ (by rw [Array.toList_map]; exact hb arr' h1), .agg h2 (fun k hk => (h3 k hk).1) fun k hk => (h3 k hk).2⟩
  cases d with
  | struct fields =>
    have hall : ∀ f, f ∈ fields.toList → (szT P f.type).isSome = true := by
      unfold plAll at hpl
      rw [hd] at hpl
      exact fun f hf => List.all_eq_true.1 hpl f hf
    have hex : ∃ places, fields.toList.mapM (fun f => (P.info? f.type).map fun i => (f.offset, i.size)) = some places := by
      generalize fields.toList = fs at hall
      induction fs with
      | nil => exact ⟨[], rfl⟩
      | cons f fs ih =>
        obtain ⟨r, hr⟩ := ih fun f' hf' => hall f' (List.mem_cons_of_mem _ hf')
        have := hall f (List.mem_cons_self ..)
        unfold szT at this
        cases hq : P.info? f.type with
        | none => rw [hq] at this; cases this
        | some i => exact ⟨(f.offset, i.size) :: r, by simp [List.mapM_cons, hq, hr]⟩
    obtain ⟨places, hpls⟩ := hex
    refine conclude (place' := fun i => places.toArray[i]?) (fun i => ?_) fun arr' h => ?_
    · rw [List.getElem?_toArray, places_at hpls i]
      unfold plT
      rw [hd]
      simp only [Array.getElem?_toList]
      rfl
    · unfold Program.built
      simp only [hi, hd, hzv, hpls]
      exact h
  | array n e =>
    cases hie : P.info? e with
    | none =>
      exfalso
      unfold plAll at hpl
      rw [hd] at hpl
      simp [szT, hie] at hpl
    | some ie =>
      refine conclude (place' := fun i => some (i * ie.size, ie.size)) (fun i => ?_) fun arr' h => ?_
      · unfold plT
        rw [hd]
        simp [szT, hie]
      · unfold Program.built
        simp only [hi, hd, hzv, hie]
        exact h
  | _ => cases hdd

theorem buildSlice_sound (m : MR B H w g) (hb0 : g.J b = none) {fr : Nat → V} {a : Act} (sl : ∀ t, VR w g.S g.J H (fr t) (a.tmps.getD t Go.undef)) {t e : TypeId} {n sz bytes : Nat} {ps : Array (Nat × Operand)} {z cs : List V} {vs : List (Nat × V)} {d : D}
    (ht : slT P t = some (e, sz, bytes)) (hvs : ps.toList.mapM (fun p => (ev fr p.2).map fun v => (p.1, v)) = some vs) (hz : zeroT P e = some z) (hcond : z.length = sz ∧ 0 < sz ∧ n * sz ≤ 1000)
    (hf : fillV (fun i => some (i * sz, sz)) (zerosV n z) vs = some cs)
    (hd : (if n = 0 then ret .nils else
            if B.strict then some { v := .sl b 0 0 n, wr := [(b, some ⟨0, 2, sz, cs⟩)] } else
            let ms := cs.map (mvC H)
            let gone := ms.flatMap (·.2)
            if nodupB gone then some { v := .sl b 0 0 n, rd := gone, wr := (gone.map fun i => (i, none)) ++ [(b, some ⟨0, 2, sz, ms.map (·.1)⟩)], ok := cs.all (mvOk H) } else none) = some d) :
    ∃ x w' g', (Instr.buildSlice t n (ps.map fun (i, x) => (i, a.eval x))).run P w = .ok x w' ∧ Out B H w g b d x w' g' := by
  obtain ⟨hu, i, hi, rfl, rfl⟩ := sl_und ht
  obtain ⟨c1, c2, c3⟩ := hcond
  obtain ⟨i', zv, hi', hzv, hl, hc⟩ := zero_sound (w := w) (g := g) hz
  rw [hi] at hi'
  injection hi' with hi'
  subst hi'
  have hparts := parts_sound sl hvs
  have hzs := zeros_sound (g := g) (H := H) (w := w) (t := t) (l := n) (n := n * i.size) hl (by omega) (by rw [c1]; exact Nat.le_refl _) hc
  obtain ⟨arr, h1, h2, h3⟩ := fill_sound (S := g.S) (J := g.J) (H := H) (place' := fun j => some (j * i.size, i.size)) (fun _ => rfl) hparts (arr := madeCells zv.cells (n * i.size)) (by rw [zerosV_len, size_madeCells, c1]) (fun k hk => ⟨by
    have hk' : k < n * z.length := by rw [zerosV_len] at hk; exact hk
    have hm : k % z.length < z.length := Nat.mod_lt _ (by omega)
    rw [madeCells_at (by rw [← c1]; exact hk') (by omega), ← hl]
    have e : (zerosV n z)[k] = z[k % z.length] := by
      have : (zerosV n z)[k]? = some z[k % z.length] := by simp [zerosV, hk', hm]
      rw [List.getElem?_eq_getElem hk] at this
      injection this
    rw [e]
    exact .pure (hc _ hm).1, (hzs k hk).2⟩) hf
  by_cases hn : n = 0
  · subst hn
    simp only [if_true, ret, Option.some.injEq] at hd
    subst hd
    obtain ⟨r1, r2⟩ := m.push (w' := w.alloc (.cells arr e)) rfl rfl rfl rfl
    refine ⟨.slice (some ⟨w.heap.size, 0, none⟩) 0 0, _, g, ?_, .pure (.nils _), r1, r2, fun id h => .inl h⟩
    have hr0 : Array.range 0 = #[] := rfl
    have hm0 : madeCells zv.cells (0 * i.size) = #[] := Array.eq_empty_of_size_eq_zero (by rw [size_madeCells, Nat.zero_mul])
    rw [hm0] at h1
    have h1' : Instr.fill (fun j => some (j * i.size, i.size)) #[] (ps.toList.map fun x => (x.1, a.eval x.2)) = some arr := h1
    simp [Instr.buildSlice, run_underlying hu, sizeOf, typeInfo, hi, hr0, h1', newRow]
  · rw [if_neg hn] at hd
    have hlen : cs.length = n * i.size := by
      have := fill_size h1
      rw [h2, this, size_madeCells]
    have hrun := run_buildSlice (P := P) w t e n (ps.map fun (i, x) => (i, a.eval x)) arr i zv hu hi hzv (by omega) (by
      intro h0
      rcases Nat.mul_eq_zero.1 h0 with h | h <;> omega) (by rw [Array.toList_map]; exact h1)
    obtain ⟨p1, p2⟩ := heap_push (w := w) (o := .cells arr e)
    have hmax : n ≤ maxLen := by
      have : n ≤ n * i.size := Nat.le_mul_of_pos_right _ c2
      simp only [maxLen]; omega
    split at hd
    · simp only [Option.some.injEq] at hd
      subst hd
      obtain ⟨g', o⟩ := Out.made (gone := []) (rd := []) (lv := 2) (sz := i.size) (w' := w.alloc (.cells arr e)) m hb0 (v := .sl b 0 0 n) (z := .slice (some ⟨w.heap.size, 0, none⟩) n n) (cells := cs) (fun _ => []) rfl rfl rfl (by show (w.heap.push _).size = _; simp) p1 p2
        (fun k _ h => by simp at h) (by omega) (fun k hk => .inl ⟨(h3 k hk).1, rfl⟩) (fun k hk => (h3 k hk).2) (by rw [fm_nil]; exact List.nodup_nil) (fun c h => by rw [fm_nil] at h; cases h)
        (fun S' J' H' hJ hH => .sl0 hJ hH rfl (Nat.le_refl _) hmax (by omega) (by
          have h3 : (w.alloc (.cells arr e)).heap[w.heap.size]? = some (.cells arr e) := p2
          simp only [bsz, h3]; omega))
      exact ⟨_, _, g', hrun, o⟩
    · simp only at hd
      split at hd
      · rename_i hnd
        simp only [Option.some.injEq] at hd
        subst hd
        obtain ⟨fp, q1, q2, q3⟩ := mv_sound m (vs := cs) (x := fun k => arr.getD k Go.undef) (fun k hk => (h3 k hk).1) (nodup_of_nodupB hnd)
        have hml : ((cs.map (mvC H)).map (·.1)).length = cs.length := by simp
        obtain ⟨g', o⟩ := Out.made (gone := (cs.map (mvC H)).flatMap (·.2)) (rd := (cs.map (mvC H)).flatMap (·.2)) (lv := 2) (sz := i.size) (w' := w.alloc (.cells arr e)) m hb0 (v := .sl b 0 0 n) (z := .slice (some ⟨w.heap.size, 0, none⟩) n n) (cells := (cs.map (mvC H)).map (·.1)) fp rfl rfl rfl (by show (w.heap.push _).size = _; simp) p1 p2
          (fun k _ h => by simp at h) (by omega) (fun k hk => by simpa using q1 k (by omega)) (fun k hk => (h3 k (by omega)).2) (by rw [hml]; exact q2) (by rw [hml]; exact q3)
          (fun S' J' H' hJ hH => .sl0 hJ hH rfl (Nat.le_refl _) hmax (by omega) (by
            have h3 : (w.alloc (.cells arr e)).heap[w.heap.size]? = some (.cells arr e) := p2
            simp only [bsz, h3]; omega))
        exact ⟨_, _, g', hrun, o.okd _⟩
      · cases hd

/-! ### Conversions -/
theorem isU8 {e : TypeId} (h : isU8T (P.underlying e) = true) : P.underlying e = some (.int .u8) := by
  unfold isU8T at h
  split at h
  · assumption
  · cases h

theorem push_bytes : ∀ (ns : List Int) (s : ByteArray), (ns.foldl (fun r n => r.push (UInt8.ofNat n.toNat)) s).data = s.data ++ (ns.map fun n => UInt8.ofNat n.toNat).toArray
  | [], s => by simp
  | n :: ns, s => by
    simp only [List.foldl_cons]
    rw [push_bytes ns]
    simp [ByteArray.push]

theorem bytes_cells {cs : List V} {bs : List UInt8} (h : cs.mapM byteOf = some bs) : ∃ ns : List Int, cs = ns.map (V.int .u8) ∧ bs = ns.map fun n => UInt8.ofNat n.toNat := by
  induction cs generalizing bs with
  | nil => simp at h; subst h; exact ⟨[], rfl, rfl⟩
  | cons c cs ih =>
    obtain ⟨u, r, h1, h2, rfl⟩ := mapM_cons_some h
    obtain ⟨ns, rfl, rfl⟩ := ih h2
    unfold byteOf at h1
    split at h1
    · rename_i n
      injection h1 with h1
      subst h1
      exact ⟨n :: ns, rfl, rfl⟩
    · cases h1

theorem TR.int_inv {S : Nat → Prop} {k : IntKind} {n : Int} {x : Value} {fp : List Nat} (h : TR w S (.int k n) x fp) : x = .int k n := by
  cases h with
  | pr h => cases h; rfl

theorem conv_sound (m : MR B H w g) (hb0 : g.J b = none) {src dst : TypeId} {x : V} {y : Value} {d : D} (h : convD P H b src dst x = some d) (hx : VR w g.S g.J H x y) :
    ∃ z w' g', (convert src dst y).run P w = .ok z w' ∧ Out B H w g b d z w' g' := by
  unfold convD at h
  split at h
  · rename_i ds k k0 n hs hd
    simp only [ret, Option.some.injEq] at h
    subst h
    obtain rfl := hx.int_inv
    exact ⟨_, w, g, by simp [convert, run_underlying hs, run_underlying hd, Conv.intToInt], .same m rfl int_of⟩
  · rename_i ds s hs hd
    simp only [ret, Option.some.injEq] at h
    subst h
    obtain rfl := hx.str_inv
    exact ⟨_, w, g, by simp [convert, run_underlying hs, run_underlying hd], .same m rfl (.pure (.str _))⟩
  · rename_i ds e s hs hd
    split at h
    · rename_i hu8
      have he := isU8 hu8.1
      simp only [Option.some.injEq] at h
      subst h
      obtain rfl := hx.str_inv
      have hcap : s.size ≤ grownCap w s.size 0 e := grown_ge w s.size 0 e
      have hmax : s.size ≤ maxLen := by have := hu8.2; simp only [maxLen]; omega
      · let elems : Array Value := s.data.map fun b => Value.int .u8 b.toNat
        let arr : Array Value := elems ++ Array.replicate (grownCap w s.size 0 e - s.size) (.int .u8 0)
        have hsz : arr.size = grownCap w s.size 0 e := by
          show (elems ++ Array.replicate (grownCap w s.size 0 e - s.size) (Value.int .u8 0)).size = _
          have : elems.size = s.size := by show (s.data.map _).size = _; rw [Array.size_map]; rfl
          simp only [Array.size_append, Array.size_replicate, this]
          omega
        let w1 : World := w.drew.alloc (.cells arr e)
        let w2 : World := w1.freeze ⟨w.heap.size, arr.size, none⟩ 1
        obtain ⟨p1, p2⟩ := heap_push (w := w) (o := .cells arr e)
        have q2 : w2.heap[w.heap.size]? = some (.cells arr e (arr.size, arr.size + 1)) := by
          show (w1.freeze ⟨w.heap.size, arr.size, none⟩ 1).heap[w.heap.size]? = _
          have : w1.heap[w.heap.size]? = some (.cells arr e) := p2
          simp [World.freeze, Array.getElem?_modify, this]
        have q1 : ∀ c, c < w.heap.size → w2.heap[c]? = w.heap[c]? := fun c hc => by
          show (w1.freeze ⟨w.heap.size, arr.size, none⟩ 1).heap[c]? = _
          have h1 : w1.heap[c]? = w.heap[c]? := p1 c hc
          have hne : ¬ w.heap.size = c := by omega
          simp [World.freeze, Array.getElem?_modify, hne, h1]
        have hcr : ∀ k (hk : k < (bytesV s).length), CR w g.S g.J H (bytesV s)[k] (arr.getD k Go.undef) [] ∧ (arr.getD k Go.undef).oneCell' = true := fun k hk => by
          have hk' : k < s.size := by rw [bytesV_len] at hk; exact hk
          have hd' : k < s.data.size := hk'
          have ha : arr.getD k Go.undef = .int .u8 (s.data[k]).toNat := by
            have hka : k < arr.size := by omega
            simp only [Array.getD, hka, dif_pos, Array.getInternal_eq_getElem]
            have he2 : k < elems.size := by show k < (s.data.map _).size; rw [Array.size_map]; exact hd'
            show (elems ++ Array.replicate (grownCap w s.size 0 e - s.size) (Value.int .u8 0))[k] = _
            rw [Array.getElem_append_left he2]
            simp [elems]
          have hv : (bytesV s)[k] = .int .u8 (s.data[k]).toNat := by simp [bytesV]
          rw [ha, hv]
          exact ⟨.inl ⟨int_of, rfl⟩, rfl⟩
        have hsz2 : w2.heap.size = w.heap.size + 1 := by
          show (w1.freeze ⟨w.heap.size, arr.size, none⟩ 1).heap.size = _
          simp [World.freeze, w1, World.alloc]
        have hrun : (convert src dst (.string s)).run P w = .ok (.slice (some ⟨w.heap.size, 0, none⟩) s.size (grownCap w s.size 0 e)) w2 := by
          have hq : (Question.appendCap s.size 0 e).forced = false := rfl
          simp [convert, run_underlying hs, run_underlying hd, run_underlying he, Conv.stringToBytes, hq, newRow, markStringish]
          have hsh : w1.shape? w.heap.size = some (e, arr.size) := by
            have : w1.heap[w.heap.size]? = some (.cells arr e) := p2
            simp only [World.shape?, this]
          change ((Sem.run P (match w1.shape? w.heap.size with
            | some (fst, n) => freeze { block := w.heap.size, off := n } 1
            | x => pure ()) w1).andThen _) = _
          rw [hsh]
          rfl
        by_cases hcz : grownCap w s.size 0 e = 0
        · have hs0 : s.size = 0 := by omega
          have hb0' : bytesV s = [] := List.eq_nil_of_length_eq_zero (by rw [bytesV_len, hs0])
          obtain ⟨g', o⟩ := Out.empty m hb0 (m.grow (w' := w2) (by omega) q1 rfl rfl rfl) 2 1 [] (some ⟨w.heap.size, 0, none⟩)
          refine ⟨_, _, g', hrun, ?_⟩
          rw [hb0', hcz, hs0]
          exact o
        obtain ⟨g', o⟩ := Out.made (gone := []) (rd := []) (lv := 2) (sz := 1) (w' := w2) m hb0 (v := .sl b 0 0 s.size) (z := .slice (some ⟨w.heap.size, 0, none⟩) s.size (grownCap w s.size 0 e)) (cells := bytesV s) (fun _ => []) rfl rfl rfl hsz2 q1 q2
          (fun k hk h => by simp only at h; omega) (by rw [bytesV_len]; omega) (fun k hk => (hcr k hk).1) (fun k hk => (hcr k hk).2) (by rw [fm_nil]; exact List.nodup_nil) (fun c h => by rw [fm_nil] at h; cases h)
          (fun S' J' H' hJ hH => .sl0 hJ hH rfl hcap (grownCap_le_maxLen w s.size 0 e hmax) (by omega) (by simp only [bsz, q2, hsz]; omega))
        exact ⟨_, _, g', hrun, o⟩
    · cases h
  · rename_i x' _ _ _ e hs hd hns
    split at h
    · rename_i hu8
      have he := isU8 hu8
      split at h
      · rename_i cs ids hseg
        obtain ⟨bs, hbs, rfl⟩ := Option.map_eq_some_iff.1 h
        have hlen : ∃ n, lenV x' = some n := by
          unfold segV at hseg
          split at hseg <;> first | exact ⟨_, rfl⟩ | cases hseg
        obtain ⟨n, hlen⟩ := hlen
        obtain ⟨A, c, xs, fp, rfl, hnc, hcm, hxl, hsg, hA, _⟩ := seg_sound m (by omega : 0 < 1) hseg hlen hx
        obtain ⟨ns, rfl, rfl⟩ := bytes_cells hbs
        have hxs : xs = ns.map (Value.int .u8) := by
          apply List.ext_getElem
          · rw [← hsg.len]; simp
          · intro k h1 h2
            have hk : k < (ns.map (V.int .u8)).length := by rw [hsg.len]; exact h1
            have hcr := hsg.cr k hk h1
            simp only [List.getElem_map] at hcr ⊢
            rcases hcr with ⟨hv, _⟩ | ht
            · exact hv.int_inv
            · exact ht.int_inv
        have hstr : (ns.foldl (fun r n => r.push (UInt8.ofNat n.toNat)) ByteArray.empty) = ⟨(ns.map fun n => UInt8.ofNat n.toNat).toArray⟩ := by
          have := push_bytes ns ByteArray.empty
          cases hx : (ns.foldl (fun r n => r.push (UInt8.ofNat n.toNat)) ByteArray.empty) with
          | mk data =>
            rw [hx] at this
            simp only at this
            rw [this]
            congr 1
            simp [ByteArray.empty, ByteArray.emptyWithCapacity]
            rfl
        refine ⟨.string ⟨(ns.map fun n => UInt8.ofNat n.toNat).toArray⟩, w, g, ?_, .same m rfl (.pure (.str _))⟩
        rw [run_convert_bytes_string w src dst e A n c hs he hd]
        rcases hA with hA | ⟨a, rfl, hc⟩
        · subst hA
          have : ns = [] := by
            have h1 : xs = [] := List.eq_nil_of_length_eq_zero (by omega)
            rw [hxs] at h1
            simpa using h1
          subst this
          cases A with
          | none => rfl
          | some a =>
            have := run_bytesToString (P := P) w a 0 c [] (by simp [loadCells, loadCellsFrom])
            rw [this]
            rfl
        · have hload := run_loadCells_list (P := P) w a xs hc
          rw [show xs.length = n by omega, hxs] at hload
          rw [run_bytesToString w a n c ns hload, hstr]
      · cases h
    · cases h
  · cases h

/-! ### Built-in functions -/
theorem len_sound {ts : Array TypeId} {ty : TypeId} {v r : V} {y : Value} {n : Nat} (hl : lenV v = some n) (hv : VR w g.S g.J H v y)
    (hu : (∃ e, (ts[0]?).bind P.underlying = some (.slice e) ∧ ∀ s, v ≠ .str s) ∨ ((ts[0]?).bind P.underlying = some .string ∧ ∃ s, v = .str s)) : (Builtin.len_ ts ty #[y]).run P w = .ok (.int .i64 (n : Int)) w := by
  rcases hu with ⟨e, hu, hns⟩ | ⟨hu, s, rfl⟩
  · obtain ⟨t, ht, hu⟩ := Option.bind_eq_some_iff.1 hu
    obtain ⟨A, c, rfl, _⟩ := hv.len_inv hl hns
    simp [Builtin.len_, ht, run_underlying hu, goInt]
  · obtain ⟨t, ht, hu⟩ := Option.bind_eq_some_iff.1 hu
    simp only [lenV, Option.some.injEq] at hl
    subst hl
    obtain rfl := hv.str_inv
    simp [Builtin.len_, ht, run_underlying hu, goInt]

theorem mm_sound {f : Int → Int → Int} {f2 : Value → Value → Sem Value} (hf : ∀ (k : IntKind) (a b : Int), (f2 (.int k a) (.int k b)).run P w = .ok (.int k (f a b)) w) : ∀ {vs : List V} {xs : List Value} {k : IntKind} {a : Int} {r : V},
    vs.length = xs.length → (∀ i (hi : i < vs.length) (hi' : i < xs.length), VR w g.S g.J H vs[i] xs[i]) →
    vs.foldlM (fun x y => match x, y with | .int k a, .int k' b => if k = k' then some (.int k (f a b)) else none | _, _ => none) (V.int k a) = some r → ∃ z, (xs.foldlM f2 (.int k a)).run P w = .ok z w ∧ VR w g.S g.J H r z
  | [], xs, k, a, r, hl, _, h => by
    have : xs = [] := List.eq_nil_of_length_eq_zero (by simpa using hl.symm)
    subst this
    simp at h
    subst h
    exact ⟨_, rfl, int_of⟩
  | v :: vs, [], _, _, _, hl, _, _ => by simp at hl
  | v :: vs, x :: xs, k, a, r, hl, hv, h => by
    rw [List.foldlM_cons] at h
    have h0 : VR w g.S g.J H v x := hv 0 (by simp) (by simp)
    cases v with
    | int k' b =>
      by_cases e : k = k'
      · subst e
        obtain rfl := h0.int_inv
        simp only [if_true, Option.bind_eq_bind, Option.bind_some] at h
        obtain ⟨z, hz, hr⟩ := mm_sound hf (xs := xs) (by simpa using hl) (fun i hi hi' => hv (i + 1) (by simpa using hi) (by simpa using hi')) h
        exact ⟨z, by simp [List.foldlM_cons, hf, hz], hr⟩
      · simp [e] at h
    | _ => simp at h
end

end Go.Proofs.Ytclebbjpacpbmaa.Ev
