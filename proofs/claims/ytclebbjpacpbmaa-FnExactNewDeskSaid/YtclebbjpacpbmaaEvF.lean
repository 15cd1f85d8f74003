/- The abstract interpreter: operations that leave memory alone, further. Conditions: none. -/
import Derived.Test.YtclebbjpacpbmaaEvE
set_option linter.unusedVariables false
set_option linter.unusedSimpArgs false
namespace Go.Proofs.Ytclebbjpacpbmaa.Ev
open Go

section
variable {w : World} {S : Nat → Prop} {J : Nat → Option (Option Nat)} {H : Nat → Option Ob} {P : Program}

theorem add_add (a : Addr) (m k : Nat) : (a.add m).add k = a.add (m + k) := by
  unfold Addr.add
  by_cases h1 : m = 0 <;> by_cases h2 : k = 0 <;> simp [h1, h2, Nat.add_assoc]

theorem und_agg {t : TypeId} {b : Bool} (h : aggT P t = some b) : ∃ d, P.underlying t = some d ∧ b = (match d with | .struct _ | .array _ _ => true | _ => false) := by
  unfold aggT at h
  obtain ⟨d, hd, rfl⟩ := Option.map_eq_some_iff.1 h
  exact ⟨d, hd, rfl⟩
theorem run_isAgg' {t : TypeId} {b : Bool} (h : aggT P t = some b) : (isAgg t).run P w = .ok b w := by
  obtain ⟨d, hd, rfl⟩ := und_agg h
  unfold isAgg
  simp only [Sem.run_bind, run_underlying hd, Result.andThen_ok]
  cases d <;> rfl
theorem run_sizeOf' {t : TypeId} {n : Nat} (h : szT P t = some n) : (sizeOf t).run P w = .ok n w := by
  unfold szT at h
  obtain ⟨i, hi, rfl⟩ := Option.map_eq_some_iff.1 h
  simp [sizeOf, typeInfo, hi]
theorem sl_und {t e : TypeId} {sz bytes : Nat} (h : slT P t = some (e, sz, bytes)) : P.underlying t = some (.slice e) ∧ ∃ i, P.info? e = some i ∧ i.size = sz ∧ i.bytes = bytes := by
  unfold slT at h
  split at h
  · rename_i e' he
    obtain ⟨i, hi, h2⟩ := Option.map_eq_some_iff.1 h
    simp only [Prod.mk.injEq] at h2
    obtain ⟨rfl, h2, h3⟩ := h2
    exact ⟨he, i, hi, h2, h3⟩
  · cases h
theorem fld_und {t : TypeId} {f o n : Nat} {ag : Bool} (h : fldT P t f = some (o, ag, n)) : ∃ fields x, P.underlying t = some (.struct fields) ∧ fields[f]? = some x ∧ x.offset = o ∧ aggT P x.type = some ag ∧ szT P x.type = some n := by
  unfold fldT at h
  split at h
  · rename_i fields hf
    split at h
    · rename_i x hx
      cases ha : aggT P x.type with
      | none => simp [ha] at h
      | some a =>
        cases hz : szT P x.type with
        | none => simp [ha, hz] at h
        | some z =>
          simp [ha, hz] at h
          obtain ⟨h1, h2, h3⟩ := h
          subst h2; subst h3
          exact ⟨fields, x, hf, hx, h1, ha, hz⟩
    · cases h
  · cases h
theorem arr_und {t : TypeId} {n s : Nat} {ag : Bool} (h : arrT P t = some (n, ag, s)) : ∃ e, P.underlying t = some (.array n e) ∧ aggT P e = some ag ∧ szT P e = some s := by
  unfold arrT at h
  split at h
  · rename_i n' e he
    cases ha : aggT P e with
    | none => simp [ha] at h
    | some a =>
      cases hz : szT P e with
      | none => simp [ha, hz] at h
      | some z =>
        simp [ha, hz] at h
        obtain ⟨h1, h2, h3⟩ := h
        subst h1; subst h2; subst h3
        exact ⟨e, he, ha, hz⟩
  · cases h

/-! ### Parts of aggregates -/
theorem extract_getD {arr : Array Value} {o n k : Nat} (h : o + n ≤ arr.size) (hk : k < n) : (arr.extract o (o + n)).getD k Go.undef = arr.getD (o + k) Go.undef := by
  have h1 : k < (arr.extract o (o + n)).size := by simp; omega
  have h2 : o + k < arr.size := by omega
  simp only [Array.getD, h1, h2, dif_pos, Array.getInternal_eq_getElem, Array.getElem_extract]

theorem agg_part {cs : List V} {arr : Array Value} {o n : Nat} (hl : cs.length = arr.size) (h : ∀ k (hk : k < cs.length), VR w S J H cs[k] (arr.getD k Go.undef)) (h1 : ∀ k, k < cs.length → (arr.getD k Go.undef).oneCell' = true) (hfit : o + n ≤ cs.length) :
    VR w S J H (.agg ((cs.drop o).take n)) (.agg (arr.extract o (o + n))) := by
  have hlen : ((cs.drop o).take n).length = n := by simp; omega
  refine .agg (by rw [hlen]; simp; omega) (fun k hk => ?_) fun k hk => ?_
  · obtain ⟨h1, h2⟩ := take_drop_at hk
    rw [h2 h1, extract_getD (by omega) (by omega)]
    exact h _ h1
  · rw [extract_getD (by omega) (by omega)]
    exact h1 _ (by omega)

theorem part_sound {t : TypeId} {ag : Bool} {n o : Nat} {cs : List V} {arr : Array Value} {v : V} (ha : aggT P t = some ag) (hz : szT P t = some n) (hl : cs.length = arr.size)
    (h : ∀ k (hk : k < cs.length), VR w S J H cs[k] (arr.getD k Go.undef)) (h1 : ∀ k, k < cs.length → (arr.getD k Go.undef).oneCell' = true) (hv : (if ag then (if o + n ≤ cs.length then some (.agg ((cs.drop o).take n)) else none) else cs[o]?) = some v) :
    ∃ z, (part t arr o).run P w = .ok z w ∧ VR w S J H v z := by
  unfold part
  cases ag with
  | true =>
    simp only [if_true] at hv
    split at hv
    · rename_i hfit
      injection hv with hv
      subst hv
      exact ⟨_, by simp [run_isAgg' ha, run_sizeOf' hz], agg_part hl h h1 hfit⟩
    · cases hv
  | false =>
    simp only [Bool.false_eq_true, if_false] at hv
    obtain ⟨ho, rfl⟩ := List.getElem?_eq_some_iff.1 hv
    refine ⟨arr.getD o Go.undef, ?_, h o ho⟩
    have : arr[o]? = some (arr.getD o Go.undef) := getD_of (by omega)
    simp only [Sem.run_bind, run_isAgg' ha, Result.andThen_ok, Bool.false_eq_true, if_false]
    rw [this]
    rfl

/-! ### Addresses -/
theorem ptr_add {id ver off o : Nat} {x : Value} (h : VR w S J H (.ptr id ver off) x) : ∃ a, x = .pointer (some a) ∧ VR w S J H (.ptr id ver (off + o)) (.pointer (some (a.add o))) := by
  obtain ⟨a, rfl, hj, h⟩ := h.ptr_inv
  refine ⟨a, rfl, .ptr hj fun ob hob => ⟨(h ob hob).1, fun e => ?_⟩⟩
  obtain ⟨b, hb, rfl⟩ := (h ob hob).2 e
  exact ⟨b, hb, addr_add b off o⟩
theorem ref_add {cs : List V} {off o : Nat} {x : Value} (h : VR w S J H (.ref cs off) x) : ∃ a, x = .pointer (some a) ∧ VR w S J H (.ref cs (off + o)) (.pointer (some (a.add o))) := by
  obtain ⟨ad, f, rfl, hS, hd, h, h1⟩ := h.ref_inv
  refine ⟨_, rfl, ?_⟩
  rw [add_add]
  exact .pure (.ref f hS hd h h1)

theorem fieldAt_run {t : TypeId} {f o n : Nat} {ag : Bool} (h : fldT P t f = some (o, ag, n)) (hn : n ≠ 0) (a : Addr) : (Instr.fieldAt t (.pointer (some a)) f).run P w = .ok (.pointer (some (a.add o))) w := by
  obtain ⟨fields, x, hu, hx, rfl, ha, hz⟩ := fld_und h
  simp [Instr.fieldAt, run_underlying hu, hx, Instr.sureAddr, fieldPlace, run_sizeOf' hz, hn]

theorem indexAt_slice_run {t e : TypeId} {sz bytes len c : Nat} (h : slT P t = some (e, sz, bytes)) (a : Addr) (k : IntKind) (i : Int) (h0 : 0 ≤ i) (h1 : i < len) :
    (Instr.indexAt t (.slice (some a) len c) (.int k i)).run P w = .ok (.pointer (some (a.add (i.toNat * sz)))) w := by
  obtain ⟨hu, inf, hi, rfl, rfl⟩ := sl_und h
  simp [Instr.indexAt, asIntOf, run_underlying hu, h0, h1, sizeOf, typeInfo, hi]

theorem indexAt_array_run {t : TypeId} {n s : Nat} {ag : Bool} (h : arrT P t = some (n, ag, s)) (a : Addr) (k : IntKind) (i : Int) (h0 : 0 ≤ i) (h1 : i < n) :
    (Instr.indexAt t (.pointer (some a)) (.int k i)).run P w = .ok (.pointer (some (a.add (i.toNat * s)))) w := by
  obtain ⟨e, hu, ha, hz⟩ := arr_und h
  simp [Instr.indexAt, asIntOf, run_underlying hu, h0, h1, Instr.sureAddr, run_sizeOf' hz]

/-! ### Cuts -/
theorem bound_sound {x : Option V} {y : Option Value} {d r : Nat} (h : bound x d = some r) (hx : ∀ v, x = some v → ∃ z, y = some z ∧ VR w S J H v z) (hn : x = none → y = none) : (x = none ∧ y = none ∧ r = d) ∨ ∃ k, y = some (.int k (r : Int)) ∧ x.isSome = true := by
  cases x with
  | none => simp [bound] at h; exact .inl ⟨rfl, hn rfl, h.symm⟩
  | some v =>
    right
    obtain ⟨z, rfl, hv⟩ := hx v rfl
    unfold bound at h
    split at h
    · rename_i e; cases e
    · rename_i e
      injection e with e
      subst e
      obtain rfl := hv.int_inv
      split at h
      · injection h with h
        exact ⟨_, by rw [← h, Int.toNat_of_nonneg (by assumption)], rfl⟩
      · cases h
    · cases h

theorem bounds_run {isSlice : Bool} {len cap l h m : Nat} {lo hi mx : Option Value} (hl : (lo = none ∧ l = 0) ∨ ∃ k, lo = some (.int k (l : Int))) (hh : (hi = none ∧ h = len) ∨ ∃ k, hi = some (.int k (h : Int)))
    (hm : (mx = none ∧ m = cap) ∨ ∃ k, mx = some (.int k (m : Int))) (hne : mx ≠ none → hi ≠ none) (h1 : l ≤ h) (h2 : h ≤ m) (h3 : m ≤ cap) (h4 : mx = none → hi = none → len ≤ cap) :
    (Instr.sliceBounds isSlice len cap lo hi mx).run P w = .ok (l, h, m) w := by
  have sb : ∀ (k : IntKind) (i y : Nat) (code : BoundsCode), i ≤ y → (Instr.sliceBound (.int k (i : Int)) y code).run P w = .ok i w := by
    intro k i y code hi
    rw [run_sliceBound w k (i : Int) y code (by omega) (by omega)]
    simp
  unfold Instr.sliceBounds
  rcases hm with ⟨rfl, rfl⟩ | ⟨km, rfl⟩
  · rcases hh with ⟨rfl, rfl⟩ | ⟨kh, rfl⟩
    · rcases hl with ⟨rfl, rfl⟩ | ⟨kl, rfl⟩
      · simp
      · simp [sb _ _ _ _ h1]
    · rcases hl with ⟨rfl, rfl⟩ | ⟨kl, rfl⟩
      · simp [sb _ _ _ _ h2]
      · simp [sb _ _ _ _ h2, sb _ _ _ _ h1]
  · rcases hh with ⟨rfl, rfl⟩ | ⟨kh, rfl⟩
    · exact absurd rfl (hne (by simp))
    · rcases hl with ⟨rfl, rfl⟩ | ⟨kl, rfl⟩
      · simp [sb _ _ _ _ h3, sb _ _ _ _ h2]
      · simp [sb _ _ _ _ h3, sb _ _ _ _ h2, sb _ _ _ _ h1]

theorem optV_rel {fr : Nat → V} {a : Act} (sl : ∀ t, VR w S J H (fr t) (a.tmps.getD t Go.undef)) {x : Option Operand} {v : Option V} (h : optE fr x = some v) :
    (∀ u, v = some u → ∃ z, x.map a.eval = some z ∧ VR w S J H u z) ∧ (v = none → x.map a.eval = none) := by
  cases x with
  | none => simp [optE] at h; subst h; exact ⟨fun u hu => (by cases hu), fun _ => rfl⟩
  | some x =>
    simp only [optE] at h
    obtain ⟨u, hu, rfl⟩ := Option.map_eq_some_iff.1 h
    exact ⟨fun u' hu' => by injection hu' with hu'; subst hu'; exact ⟨_, rfl, ev_sound sl hu⟩, fun hn => by cases hn⟩

theorem sliceAt_eq {t : TypeId} {x : Value} {lo hi mx : Option Value} (h : ∀ n e, P.underlying t ≠ some (.array n e)) {d : TypeDesc} (hd : P.underlying t = some d) : (Instr.sliceAt t x lo hi mx).run P w = (Instr.slice t x lo hi mx).run P w := by
  unfold Instr.sliceAt
  simp only [Sem.run_bind, run_underlying hd, Result.andThen_ok]
  cases d <;> first | rfl | exact absurd hd (h _ _)

theorem sliceD_sound {t : TypeId} {x : V} {y : Value} {lo hi mx : Option V} {lo' hi' mx' : Option Value} {d : D} (hd : sliceD P H t x lo hi mx = some d) (hx : VR w S J H x y)
    (hlo : (∀ u, lo = some u → ∃ z, lo' = some z ∧ VR w S J H u z) ∧ (lo = none → lo' = none)) (hhi : (∀ u, hi = some u → ∃ z, hi' = some z ∧ VR w S J H u z) ∧ (hi = none → hi' = none))
    (hmx : (∀ u, mx = some u → ∃ z, mx' = some z ∧ VR w S J H u z) ∧ (mx = none → mx' = none)) :
    ∃ z, (Instr.sliceAt t y lo' hi' mx').run P w = .ok z w ∧ VR w S J H d.v z ∧ d.wr = [] := by
  unfold sliceD at hd
  split at hd
  · rename_i s n hu hlen
    rw [sliceAt_eq (fun n e h => by rw [hu] at h; cases h) hu]
    obtain rfl := hx.str_inv
    simp only [lenV, Option.some.injEq] at hlen
    subst hlen
    split at hd
    · rename_i l h e1 e2
      split at hd
      · rename_i hc
        simp only [ret, Option.some.injEq] at hd
        subst hd
        obtain ⟨hl1, hh1⟩ := hc
        have b1 := bound_sound e1 hlo.1 hlo.2
        have b2 := bound_sound e2 hhi.1 hhi.2
        have hmn := hmx.2 rfl
        subst hmn
        have hb := bounds_run (P := P) (w := w) (isSlice := false) (len := s.size) (cap := s.size) (l := l) (h := h) (m := s.size) (lo := lo') (hi := hi') (mx := none)
          (b1.imp (fun q => ⟨q.2.1, q.2.2⟩) fun ⟨k, q, _⟩ => ⟨k, q⟩) (b2.imp (fun q => ⟨q.2.1, q.2.2⟩) fun ⟨k, q, _⟩ => ⟨k, q⟩) (.inl ⟨rfl, rfl⟩) (by simp) hl1 hh1 (Nat.le_refl _) (fun _ _ => Nat.le_refl _)
        refine ⟨.string (s.extract l h), ?_, .pure (.str _), rfl⟩
        simp [Instr.slice, run_underlying hu, hb]
      · cases hd
    · cases hd
  · rename_i e n hu hlen
    rw [sliceAt_eq (fun n e h => by rw [hu] at h; cases h) hu]
    split at hd
    · rename_i sz l h m e0 e1 e2 e3
      split at hd
      · rename_i hc
        obtain ⟨hlh, hhm, hmn, hmh, hsz0⟩ := hc
        have b1 := bound_sound e1 hlo.1 hlo.2
        have b2 := bound_sound e2 hhi.1 hhi.2
        have b3 := bound_sound e3 hmx.1 hmx.2
        -- the slice's own shape
        have shape : ∀ A c, n ≤ c → ∃ m', (mx' = none → m' = c) ∧ (mx.isSome = true → m' = m) ∧ l ≤ m' ∧ h ≤ m' ∧ m' ≤ c ∧
            (Instr.slice t (.slice A n c) lo' hi' mx').run P w = .ok (.slice (if m' = l then A else A.map (·.add (l * sz))) (h - l) (m' - l)) w := by
          intro A c hnc
          have hne : mx' ≠ none → hi' ≠ none := by
            intro hm hh
            rcases b3 with ⟨hmx0, hmx1, _⟩ | ⟨k, _, hs⟩
            · exact hm hmx1
            · rcases b2 with ⟨hh0, _⟩ | ⟨k2, hh2, _⟩
              · have := hmh hs; rw [hh0] at this; cases this
              · rw [hh2] at hh; cases hh
          have blo : (lo' = none ∧ l = 0) ∨ ∃ k, lo' = some (.int k (l : Int)) := b1.imp (fun q => ⟨q.2.1, q.2.2⟩) fun ⟨k, q, _⟩ => ⟨k, q⟩
          have bhi : (hi' = none ∧ h = n) ∨ ∃ k, hi' = some (.int k (h : Int)) := b2.imp (fun q => ⟨q.2.1, q.2.2⟩) fun ⟨k, q, _⟩ => ⟨k, q⟩
          rcases b3 with ⟨hmx0, hmx1, _⟩ | ⟨k, hmx1, hs⟩
          · refine ⟨c, fun _ => rfl, fun hs => (by rw [hmx0] at hs; cases hs), by omega, by omega, Nat.le_refl _, ?_⟩
            have hb := bounds_run (P := P) (w := w) (isSlice := true) (len := n) (cap := c) (m := c) blo bhi (.inl ⟨hmx1, rfl⟩) hne hlh (by omega) (Nat.le_refl _) (fun _ _ => hnc)
            simp [Instr.slice, run_underlying hu, hb, run_sizeOf' e0]
          · refine ⟨m, fun hn => (by rw [hmx1] at hn; cases hn), fun _ => rfl, by omega, by omega, by omega, ?_⟩
            have hb := bounds_run (P := P) (w := w) (isSlice := true) (len := n) (cap := c) (m := m) blo bhi (.inr ⟨k, hmx1⟩) hne hlh (by omega) (by omega) (fun _ _ => hnc)
            simp [Instr.slice, run_underlying hu, hb, run_sizeOf' e0]
        split at hd
        · rename_i hml
          simp only [Bool.and_eq_true, beq_iff_eq] at hml
          obtain ⟨hsome, rfl⟩ := hml
          split at hd
          · cases hd
          · rename_i hns
            simp only [ret, Option.some.injEq] at hd
            subst hd
            obtain ⟨A, c, rfl, hnc⟩ := hx.len_inv hlen hns
            obtain ⟨m', _, hm2, _, _, _, hr⟩ := shape A c hnc
            have := hm2 hsome
            subst this
            have : h - m' = 0 := by omega
            refine ⟨_, hr, ?_, rfl⟩
            simp only [this, Nat.sub_self]
            exact .pure (.nils _)
        · rename_i hml
          split at hd
          · rename_i id ver off len0
            split at hd
            · rename_i ob hob
              split at hd
              · rename_i hsz
                simp only [Option.some.injEq] at hd
                subst hd
                simp only [lenV, Option.some.injEq] at hlen
                subst hlen
                obtain ⟨A, c, rfl, hj, hlc, hcm, hA, hv⟩ := hx.sl_inv
                obtain ⟨m', hm0, hm2, hlm, hhm', hmc, hr⟩ := shape A c hlc
                refine ⟨_, hr, ?_, rfl⟩
                refine .sl hj (by omega) (by omega) ?_ fun ob' hob' => ⟨(hv ob' hob').1, fun ev => ?_⟩
                · by_cases h0 : h - l = 0
                  · exact .inl h0
                  · right
                    rcases hA with hA | ⟨a, rfl⟩
                    · omega
                    · exact ⟨_, by rw [if_neg (by omega)]; rfl⟩
                · rw [hob] at hob'
                  injection hob' with hob'
                  subst hob'
                  rcases (hv ob hob).2 ev with ⟨hc0, hn0, hj0⟩ | ⟨hc1, b, hb, rfl, hcap⟩
                  · left
                    refine ⟨by omega, by omega, fun h0 => hj0 ?_⟩
                    exact Nat.eq_zero_of_add_eq_zero_right h0
                  · by_cases hml' : m' = l
                    · left
                      refine ⟨by omega, by omega, fun h0 => ?_⟩
                      exfalso
                      have h1 := Nat.eq_zero_of_add_eq_zero_left h0
                      rcases Nat.mul_eq_zero.1 h1 with h1 | h1
                      · cases hmx0 : mx.isSome with
                        | true =>
                          apply hml
                          have := hm2 hmx0
                          simp [hmx0]; omega
                        | false =>
                          have : mx = none := by cases mx <;> simp at hmx0 ⊢
                          have := hm0 (hmx.2 this)
                          omega
                      · omega
                    · right
                      refine ⟨by omega, b, hb, by rw [if_neg hml']; simp [addr_add], ?_⟩
                      rw [← hsz]
                      have h1 : l * ob.sz + (m' - l) * ob.sz = m' * ob.sz := by rw [← Nat.add_mul]; congr 1; omega
                      have h2 : m' * ob.sz ≤ c * ob.sz := Nat.mul_le_mul_right _ hmc
                      omega
              · cases hd
            · cases hd
          · rename_i n0 cs
            simp only [ret, Option.some.injEq] at hd
            subst hd
            simp only [lenV, Option.some.injEq] at hlen
            subst hlen
            obtain ⟨A, c, f, rfl, hdA, hnc, hcm, hp, hone⟩ := hx.list_inv
            obtain ⟨m', _, hm2, hlm, hhm', hmc, hr⟩ := shape A c hnc
            refine ⟨_, hr, .pure (.list (fun k => f (l * sz + k)) ?_ (by omega) (by omega) (fun k hk => ?_) fun k hk => hone _ (take_drop_at hk).1), rfl⟩
            · by_cases he : (cs.drop (l * sz)).take ((h - l) * sz) = []
              · exact .inl he
              · right
                rcases hdA with hdA | ⟨ad, rfl, hS, hc⟩
                · subst hdA; simp at he
                · have hlt : l < h := by
                    rcases Nat.lt_or_ge l h with hlt | hge
                    · exact hlt
                    · have : h - l = 0 := by omega
                      rw [this, Nat.zero_mul] at he
                      exact absurd rfl he
                  refine ⟨ad.add (l * sz), by rw [if_neg (by omega)]; rfl, by rw [block_add]; exact hS, fun k hk => ?_⟩
                  rw [add_add]
                  exact hc _ (take_drop_at hk).1
            · obtain ⟨h1, h2⟩ := take_drop_at hk
              rw [h2 h1]
              exact hp _ h1
          · simp only [ret, Option.some.injEq] at hd
            subst hd
            simp only [lenV, Option.some.injEq] at hlen
            subst hlen
            obtain ⟨A, rfl⟩ := hx.nils_inv
            obtain ⟨m', _, hm2, hlm, hhm', hmc, hr⟩ := shape A 0 (Nat.le_refl _)
            have h1 : h - l = 0 := by omega
            have h2 : m' - l = 0 := by omega
            refine ⟨_, hr, ?_, rfl⟩
            simp only [h1, h2]
            exact .pure (.nils _)
          · cases hd
      · cases hd
    · cases hd
  · cases hd

/-! ### Bytes of a string -/
theorem bytes_at {s : ByteArray} {i : Nat} {c : UInt8} (h : s.data.toList[i]? = some c) : s[i]? = some c := by
  obtain ⟨hi, hc⟩ := List.getElem?_eq_some_iff.1 h
  have hi' : i < s.size := by simpa using hi
  have : s[i]? = some s[i] := by simp [hi']
  rw [this]
  rw [← hc]
  rfl

theorem index_str_run {t : TypeId} (hu : P.underlying t = some .string) {s : ByteArray} {k : IntKind} {i : Int} {c : UInt8} (h0 : 0 ≤ i) (h : s.data.toList[i.toNat]? = some c) :
    (Instr.index t (.string s) (.int k i)).run P w = .ok (.int .u8 c.toNat) w := by
  have := bytes_at h
  simp [Instr.index, asIntOf, run_underlying hu, h0, this]

end
end Go.Proofs.Ytclebbjpacpbmaa.Ev
