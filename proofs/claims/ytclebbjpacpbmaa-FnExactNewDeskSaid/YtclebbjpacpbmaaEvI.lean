/- The abstract interpreter: results taken in; loads. Conditions: none. -/
import Derived.Test.YtclebbjpacpbmaaEvH
set_option linter.unusedVariables false
set_option linter.unusedSimpArgs false
namespace Go.Proofs.Ytclebbjpacpbmaa.Ev
open Go

section
variable {B : Beg} {H : Nat → Option Ob} {w : World} {g : Gh} {P : Program} {b : Nat}

theorem VR.adoptC {S : Nat → Prop} {J : Nat → Option (Option Nat)} {v : V} {y : Value} (h : VR w S J H v y) (x : Nat) : adoptC x v = (v, []) := by
  cases h with
  | pure h => cases h <;> rfl
  | _ => rfl
theorem CR.flat {S : Nat → Prop} {J : Nat → Option (Option Nat)} {v : V} {y : Value} {fp : List Nat} (h : CR w S J H v y fp) (hu : hasU v = false) (h1 : y.oneCell' = true) : fp = [] := by
  rcases h with ⟨_, e⟩ | h
  · exact e
  · cases h <;> first | rfl | (cases h1; done) | (cases hu; done)
theorem CR.cell {S : Nat → Prop} {J : Nat → Option (Option Nat)} {v : V} {y : Value} {fp : List Nat} (h : CR w S J H v y fp) (h1 : y.oneCell' = true) : (∀ cs, v ≠ .agg cs) ∧ ∀ cs, v ≠ .tup cs := by
  constructor <;> intro cs e <;> subst e
  · rcases h with ⟨h, _⟩ | h
    · obtain ⟨arr, rfl, _⟩ := h.agg_inv; cases h1
    · cases h with
      | pr h => cases h; cases h1
      | agg => cases h1
  · rcases h with ⟨h, _⟩ | h
    · obtain ⟨arr, rfl, _⟩ := h.tup_inv; cases h1
    · cases h with
      | pr h => cases h; cases h1
      | tup => cases h1

/-- A value that owns what it leads to is taken in. -/
theorem adoptC_sound (m : MR B H w g) {x : Nat} (hx : g.J x = none) {v : V} {y : Value} {fp : List Nat} (h : CR w g.S g.J H v y fp) (hv : (∀ cs, v ≠ .agg cs) ∧ ∀ cs, v ≠ .tup cs) (hn : fp.Nodup)
    (hnew : ∀ b, b ∈ fp → b ∈ B.fp ∨ B.w.heap.size ≤ b) (hd : ∀ id ob, H id = some ob → ∀ b, b ∈ fp → b ∉ g.F id) (hS : ∀ b, b ∈ fp → ¬ g.S b) :
    ∃ g', g'.S = g.S ∧ MR B (appW H (adoptC x v).2) w g' ∧ Pers w g.S g.J H w g'.S g'.J (appW H (adoptC x v).2) ∧ VR w g'.S g'.J (appW H (adoptC x v).2) (adoptC x v).1 y ∧
      (∀ id, id ≠ x → g'.J id = g.J id ∧ g'.F id = g.F id ∧ appW H (adoptC x v).2 id = H id) ∧ (∀ ob, appW H (adoptC x v).2 x = some ob → ∀ b, b ∈ g'.F x → b ∈ fp) := by
  have hHx : H x = none := by
    cases e : H x with
    | none => rfl
    | some ob => exact absurd hx (m.hj x ob e)
  have keep : adoptC x v = (v, []) → VR w g.S g.J H v y → ∃ g', g'.S = g.S ∧ MR B (appW H (adoptC x v).2) w g' ∧ Pers w g.S g.J H w g'.S g'.J (appW H (adoptC x v).2) ∧ VR w g'.S g'.J (appW H (adoptC x v).2) (adoptC x v).1 y ∧
      (∀ id, id ≠ x → g'.J id = g.J id ∧ g'.F id = g.F id ∧ appW H (adoptC x v).2 id = H id) ∧ (∀ ob, appW H (adoptC x v).2 x = some ob → ∀ b, b ∈ g'.F x → b ∈ fp) := fun e hv => by
    rw [e]
    exact ⟨g, rfl, m, .refl .., hv, fun _ _ => ⟨rfl, rfl, rfl⟩, fun ob h => by simp only [appW] at h; rw [hHx] at h; cases h⟩
  rcases h with ⟨h, _⟩ | h
  · exact keep (h.adoptC x) h
  · cases h with
    | pr h => exact keep ((VR.pure (J := g.J) (H := H) h).adoptC x) (.pure h)
    | unil sz A =>
      obtain ⟨r1, r2⟩ := m.put0 (x := x) (gone := []) (ob' := ⟨0, 2, sz, []⟩) (jo' := none) (F' := []) (w' := w) rfl rfl rfl (Nat.le_refl _) (fun _ _ => rfl) (fun _ _ => .inl rfl) (fun h => absurd hx h) (fun _ => ⟨rfl, rfl⟩) List.nodup_nil
        (fun _ b h => by cases h) (fun _ _ b h => by cases h) (fun b h => by cases h) (fun _ _ _ _ _ b h => by cases h)
      exact ⟨⟨upd g.J x (some none), g.S, upd g.F x []⟩, rfl, r1, r2, .sl (by show upd g.J x (some none) x ≠ none; rw [upd_same]; simp) (Nat.le_refl _) (by simp [maxLen]) (.inl rfl) fun ob h => ⟨Nat.zero_le _, fun _ => .inl ⟨rfl, rfl, fun _ => upd_same ..⟩⟩,
        fun id hid => ⟨upd_ne _ _ _ _ hid, upd_ne _ _ _ _ hid, by rw [show (adoptC x (.uniq sz 0 [])).2 = ([].map fun i => (i, (none : Option Ob))) ++ [(x, some ⟨0, 2, sz, []⟩)] from rfl, appW_put, if_neg hid]; simp⟩,
        fun ob _ b hb => by simp only [upd_same] at hb; exact hb⟩
    | @uniq sz n c bb cs arr e fr fps hb hz hl hc hn' hm hc1 h h1 =>
      have hbs : bsz w bb = arr.size := by simp only [bsz, hb]
      obtain ⟨r1, r2⟩ := m.put0 (x := x) (gone := []) (ob' := ⟨0, 2, sz, cs⟩) (jo' := some bb) (F' := bb :: (List.range cs.length).flatMap fps) (w' := w) rfl rfl rfl (Nat.le_refl _) (fun _ _ => rfl) (fun _ _ => .inl rfl) (fun h => absurd hx h)
        (fun p => ⟨arr, e, fr, fps, hb, hz, by rw [hl]; exact Nat.le_trans (Nat.mul_le_mul_right _ hn') hc, fun k hk => .inr ((h k hk).mono p.hS p.hw fun _ _ => rfl), h1, rfl⟩) hn
        (fun _ b hb => by injection hb with hb; subst hb; exact hS _ (List.mem_cons_self ..)) (fun _ _ b hb => hS b hb) hnew (fun id ob hne _ h b hb => hd id ob h b hb)
      exact ⟨⟨upd g.J x (some (some bb)), g.S, upd g.F x (bb :: (List.range cs.length).flatMap fps)⟩, rfl, r1, r2, .sl0 (c := bb) (upd_same ..) (ob := ⟨0, 2, sz, cs⟩) (by rw [show (adoptC x (.uniq sz n cs)).2 = ([].map fun i => (i, (none : Option Ob))) ++ [(x, some ⟨0, 2, sz, cs⟩)] from rfl, appW_put, if_pos rfl]) rfl hn' hm hc1 (by rw [hbs]; exact hc),
        fun id hid => ⟨upd_ne _ _ _ _ hid, upd_ne _ _ _ _ hid, by rw [show (adoptC x (.uniq sz n cs)).2 = ([].map fun i => (i, (none : Option Ob))) ++ [(x, some ⟨0, 2, sz, cs⟩)] from rfl, appW_put, if_neg hid]; simp⟩,
        fun ob _ b hb => by simp only [upd_same] at hb; exact hb⟩
    | @uptr bb cs arr e fr fps hb hz hl h h1 =>
      obtain ⟨r1, r2⟩ := m.put0 (x := x) (gone := []) (ob' := ⟨0, 1, 1, cs⟩) (jo' := some bb) (F' := bb :: (List.range cs.length).flatMap fps) (w' := w) rfl rfl rfl (Nat.le_refl _) (fun _ _ => rfl) (fun _ _ => .inl rfl) (fun h => absurd hx h)
        (fun p => ⟨arr, e, fr, fps, hb, hz, hl, fun k hk => .inr ((h k hk).mono p.hS p.hw fun _ _ => rfl), h1, rfl⟩) hn
        (fun _ b hb => by injection hb with hb; subst hb; exact hS _ (List.mem_cons_self ..)) (fun _ _ b hb => hS b hb) hnew (fun id ob hne _ h b hb => hd id ob h b hb)
      exact ⟨⟨upd g.J x (some (some bb)), g.S, upd g.F x (bb :: (List.range cs.length).flatMap fps)⟩, rfl, r1, r2, .ptr0 (c := bb) (upd_same ..),
        fun id hid => ⟨upd_ne _ _ _ _ hid, upd_ne _ _ _ _ hid, by rw [show (adoptC x (.uptr cs)).2 = ([].map fun i => (i, (none : Option Ob))) ++ [(x, some ⟨0, 1, 1, cs⟩)] from rfl, appW_put, if_neg hid]; simp⟩,
        fun ob _ b hb => by simp only [upd_same] at hb; exact hb⟩
    | agg fp hl h => exact absurd rfl (hv.1 _)
    | tup fp hl h => exact absurd rfl (hv.2 _)

/-- What has been taken in: what was told of it, in one word. -/
structure Took (B : Beg) (w : World) (H : Nat → Option Ob) (g : Gh) (x n : Nat) (wr : List (Nat × Option Ob)) (F : List Nat) (g' : Gh) : Prop where
  s : g'.S = g.S
  m : MR B (appW H wr) w g'
  p : Pers w g.S g.J H w g'.S g'.J (appW H wr)
  out : ∀ id, ¬ (x ≤ id ∧ id < x + n) → g'.J id = g.J id ∧ g'.F id = g.F id ∧ appW H wr id = H id
  into : ∀ id ob, x ≤ id → id < x + n → appW H wr id = some ob → ∀ b, b ∈ g'.F id → b ∈ F

theorem Took.trans {x n1 n2 x' n : Nat} {w1 w2 : List (Nat × Option Ob)} {F1 F2 F : List Nat} {g1 g2 : Gh} (t1 : Took B w H g x n1 w1 F1 g1) (t2 : Took B w (appW H w1) g1 x' n2 w2 F2 g2) (hx : x ≤ x') (h1 : n1 ≤ n) (h2 : x' + n2 ≤ x + n) (h3 : x + n1 ≤ x')
    (f1 : ∀ b, b ∈ F1 → b ∈ F) (f2 : ∀ b, b ∈ F2 → b ∈ F) (hH : ∀ id, x ≤ id → id < x + n → H id = none) : Took B w H g x n (w1 ++ w2) F g2 where
  s := t2.s.trans t1.s
  m := by rw [appW_append]; exact t2.m
  p := by rw [appW_append]; exact t1.p.trans t2.p
  out := fun id h => by
    obtain ⟨a1, a2, a3⟩ := t1.out id (by omega)
    obtain ⟨c1, c2, c3⟩ := t2.out id (by omega)
    rw [appW_append]
    exact ⟨c1.trans a1, c2.trans a2, c3.trans a3⟩
  into := fun id ob l1 l2 h b hb => by
    rw [appW_append] at h
    by_cases e : x' ≤ id ∧ id < x' + n2
    · exact f2 b (t2.into id ob e.1 e.2 h b hb)
    · obtain ⟨c1, c2, c3⟩ := t2.out id e
      rw [c3] at h
      rw [c2] at hb
      by_cases e1 : x ≤ id ∧ id < x + n1
      · exact f1 b (t1.into id ob e1.1 e1.2 h b hb)
      · obtain ⟨a1, a2, a3⟩ := t1.out id e1
        rw [a3, hH id l1 l2] at h
        cases h

theorem MR.noH (m : MR B H w g) {id : Nat} (h : g.J id = none) : H id = none := by
  cases e : H id with
  | none => rfl
  | some ob => exact absurd h (m.hj id ob e)

theorem adoptL_sound : ∀ (cs : List V) (x : Nat) {H : Nat → Option Ob} {g : Gh} (m : MR B H w g) (ys : Nat → Value) (fp : Nat → List Nat), (∀ id, x ≤ id → id < x + cs.length → g.J id = none) →
    (∀ k (hk : k < cs.length), CR w g.S g.J H cs[k] (ys k) (fp k)) → (∀ k, k < cs.length → (ys k).oneCell' = true) → (∀ k, k < cs.length → (fp k).Nodup) → (∀ i j, i < j → j < cs.length → ∀ b, b ∈ fp i → b ∉ fp j) →
    (∀ k, k < cs.length → ∀ b, b ∈ fp k → (b ∈ B.fp ∨ B.w.heap.size ≤ b) ∧ (∀ id ob, H id = some ob → b ∉ g.F id) ∧ ¬ g.S b) →
    ∃ g', Took B w H g x cs.length (adoptL x cs).2 ((List.range cs.length).flatMap fp) g' ∧ (adoptL x cs).1.length = cs.length ∧ ∀ k (hk : k < (adoptL x cs).1.length), VR w g'.S g'.J (appW H (adoptL x cs).2) (adoptL x cs).1[k] (ys k)
  | [], x, H, g, m, ys, fp, _, _, _, _, _, _ => ⟨g, ⟨rfl, m, .refl .., fun id h => ⟨rfl, rfl, rfl⟩, fun id ob h1 h2 => by simp at h2; omega⟩, rfl, fun k hk => by simp [adoptL] at hk⟩
  | c :: cs, x, H, g, m, ys, fp, hx, hc, h1, hn1, hn2, hf => by
    have hlen : (c :: cs).length = cs.length + 1 := rfl
    have hx0 : g.J x = none := hx x (Nat.le_refl _) (by rw [hlen]; omega)
    have hc0 : CR w g.S g.J H c (ys 0) (fp 0) := hc 0 (by rw [hlen]; omega)
    obtain ⟨g1, s1, m1, p1, v1, o1, i1⟩ := adoptC_sound m hx0 hc0 (hc0.cell (h1 0 (by rw [hlen]; omega))) (hn1 0 (by rw [hlen]; omega)) (fun b hb => (hf 0 (by rw [hlen]; omega) b hb).1) (fun id ob h b hb => (hf 0 (by rw [hlen]; omega) b hb).2.1 id ob h) (fun b hb => (hf 0 (by rw [hlen]; omega) b hb).2.2)
    have t1 : Took B w H g x 1 (adoptC x c).2 (fp 0) g1 := ⟨s1, m1, p1, fun id h => o1 id (by omega), fun id ob l1 l2 h b hb => by
      have : id = x := by omega
      subst this; exact i1 ob h b hb⟩
    obtain ⟨g2, t2, l2, v2⟩ := adoptL_sound cs (x + 1) m1 (fun k => ys (k + 1)) (fun k => fp (k + 1))
      (fun id l1 l2 => by rw [(o1 id (by omega)).1]; exact hx id (by omega) (by rw [hlen]; omega))
      (fun k hk => by
        have := hc (k + 1) (by rw [hlen]; omega)
        exact this.mono p1 fun _ _ => rfl)
      (fun k hk => h1 (k + 1) (by rw [hlen]; omega)) (fun k hk => hn1 (k + 1) (by rw [hlen]; omega)) (fun i j hij hj => hn2 (i + 1) (j + 1) (by omega) (by rw [hlen]; omega))
      (fun k hk b hb => by
        obtain ⟨q1, q2, q3⟩ := hf (k + 1) (by rw [hlen]; omega) b hb
        refine ⟨q1, fun id ob h hb' => ?_, by rw [s1]; exact q3⟩
        by_cases e : id = x
        · subst e
          exact hn2 0 (k + 1) (by omega) (by rw [hlen]; omega) b (i1 ob h b hb') hb
        · rw [(o1 id e).2.2] at h
          rw [(o1 id e).2.1] at hb'
          exact q2 id ob h hb')
    refine ⟨g2, ?_, ?_, ?_⟩
    · have := t1.trans (n := (c :: cs).length) (F := (List.range (c :: cs).length).flatMap fp) t2 (by omega) (by rw [hlen]; omega) (by rw [hlen]; omega) (by omega) (fun b hb => mem_fm.2 ⟨0, by rw [hlen]; omega, hb⟩)
        (fun b hb => by obtain ⟨k, hk, hb⟩ := mem_fm.1 hb; exact mem_fm.2 ⟨k + 1, by rw [hlen]; omega, hb⟩) (fun id l1 l2 => m.noH (hx id l1 l2))
      exact this
    · show (_ :: (adoptL (x + 1) cs).1).length = _
      simp [l2]
    · intro k hk
      rw [show (adoptL x (c :: cs)).2 = (adoptC x c).2 ++ (adoptL (x + 1) cs).2 from rfl, appW_append]
      cases k with
      | zero => exact v1.mono t2.p
      | succ k => exact v2 k (by have : k + 1 < (_ :: (adoptL (x + 1) cs).1).length := hk; simpa using this)

theorem TR.agg_inv {S : Nat → Prop} {cs : List V} {y : Value} {fp : List Nat} (h : TR w S (.agg cs) y fp) : ∃ (arr : Array Value) (fps : Nat → List Nat), y = .agg arr ∧ cs.length = arr.size ∧ (∀ k (hk : k < cs.length), TR w S cs[k] (arr.getD k Go.undef) (fps k)) ∧
    (∀ k, k < cs.length → (arr.getD k Go.undef).oneCell' = true) ∧ fp = (List.range cs.length).flatMap fps := by
  cases h with
  | pr h => cases h with | agg hl h h1 => exact ⟨_, fun _ => [], rfl, hl, fun k hk => .pr (h k hk), h1, (fm_nil _).symm⟩
  | agg fps hl h h1 => exact ⟨_, fps, rfl, hl, h, h1, rfl⟩
theorem TR.tup_inv {S : Nat → Prop} {cs : List V} {y : Value} {fp : List Nat} (h : TR w S (.tup cs) y fp) : ∃ (arr : Array Value) (fps : Nat → List Nat), y = .tuple arr ∧ cs.length = arr.size ∧ (∀ k (hk : k < cs.length), TR w S cs[k] (arr.getD k Go.undef) (fps k)) ∧
    fp = (List.range cs.length).flatMap fps := by
  cases h with
  | pr h => cases h with | tup hl h => exact ⟨_, fun _ => [], rfl, hl, fun k hk => .pr (h k hk), (fm_nil _).symm⟩
  | tup fps hl h => exact ⟨_, fps, rfl, hl, h, rfl⟩

theorem adoptA_sound (m : MR B H w g) {x : Nat} (hx : ∀ id, x ≤ id → id < x + 8 → g.J id = none) {v : V} {y : Value} {fp : List Nat} (hw : wideA v = true) (hv : ∀ cs, v ≠ .tup cs) (h : TR w g.S v y fp) (hn : fp.Nodup)
    (hf : ∀ b, b ∈ fp → (b ∈ B.fp ∨ B.w.heap.size ≤ b) ∧ (∀ id ob, H id = some ob → b ∉ g.F id) ∧ ¬ g.S b) :
    ∃ g', Took B w H g x 8 (adoptA x v).2 fp g' ∧ VR w g'.S g'.J (appW H (adoptA x v).2) (adoptA x v).1 y := by
  by_cases e : ∃ cs, v = .agg cs
  · obtain ⟨cs, rfl⟩ := e
    obtain ⟨arr, fps, rfl, hl, hc, h1, rfl⟩ := h.agg_inv
    obtain ⟨n1, n2⟩ := nodup_fm.1 hn
    have hw' : cs.length ≤ 8 := by simpa [wideA] using hw
    obtain ⟨g', t, l, vv⟩ := adoptL_sound cs x m (fun k => arr.getD k Go.undef) fps (fun id l1 l2 => hx id l1 (by omega)) (fun k hk => .inr (hc k hk)) h1 n1 n2 (fun k hk b hb => hf b (mem_fm.2 ⟨k, hk, hb⟩))
    refine ⟨g', ⟨t.s, t.m, t.p, fun id hid => t.out id (by omega), fun id ob l1 l2 h b hb => ?_⟩, .agg (by show (adoptL x cs).1.length = _; omega) (fun k hk => vv k hk) fun k hk => h1 k (by
      have : k < (adoptL x cs).1.length := hk
      omega)⟩
    by_cases e : id < x + cs.length
    · exact t.into id ob l1 e h b hb
    · have h' : appW H (adoptL x cs).2 id = some ob := h
      rw [(t.out id (by omega)).2.2, m.noH (hx id l1 l2)] at h'
      cases h'
  · have hv1 : ∀ cs, v ≠ .agg cs := fun cs h => e ⟨cs, h⟩
    have ea : adoptA x v = adoptC x v := by
      unfold adoptA
      split
      · exact absurd rfl (hv1 _)
      · rfl
    rw [ea]
    obtain ⟨g1, s1, m1, p1, v1, o1, i1⟩ := adoptC_sound m (hx x (Nat.le_refl _) (by omega)) (.inr h) ⟨hv1, hv⟩ hn (fun b hb => (hf b hb).1) (fun id ob h b hb => (hf b hb).2.1 id ob h) (fun b hb => (hf b hb).2.2)
    refine ⟨g1, ⟨s1, m1, p1, fun id h => o1 id (by omega), fun id ob l1 l2 h b hb => ?_⟩, v1⟩
    by_cases e : id = x
    · subst e; exact i1 ob h b hb
    · rw [(o1 id e).2.2, m.noH (hx id l1 l2)] at h
      cases h

theorem adoptT_sound : ∀ (cs : List V) (x : Nat) {H : Nat → Option Ob} {g : Gh} (m : MR B H w g) (ys : Nat → Value) (fp : Nat → List Nat), (∀ id, x ≤ id → id < x + 8 * cs.length → g.J id = none) →
    cs.all wideA = true → (∀ k (hk : k < cs.length), TR w g.S cs[k] (ys k) (fp k)) → (∀ k (hk : k < cs.length) us, cs[k] ≠ .tup us) → (∀ k, k < cs.length → (fp k).Nodup) → (∀ i j, i < j → j < cs.length → ∀ b, b ∈ fp i → b ∉ fp j) →
    (∀ k, k < cs.length → ∀ b, b ∈ fp k → (b ∈ B.fp ∨ B.w.heap.size ≤ b) ∧ (∀ id ob, H id = some ob → b ∉ g.F id) ∧ ¬ g.S b) →
    ∃ g', Took B w H g x (8 * cs.length) (adoptT x cs).2 ((List.range cs.length).flatMap fp) g' ∧ (adoptT x cs).1.length = cs.length ∧ ∀ k (hk : k < (adoptT x cs).1.length), VR w g'.S g'.J (appW H (adoptT x cs).2) (adoptT x cs).1[k] (ys k)
  | [], x, H, g, m, ys, fp, _, _, _, _, _, _, _ => ⟨g, ⟨rfl, m, .refl .., fun id h => ⟨rfl, rfl, rfl⟩, fun id ob h1 h2 => by simp at h2; omega⟩, rfl, fun k hk => by simp [adoptT] at hk⟩
  | c :: cs, x, H, g, m, ys, fp, hx, hw, hc, ht, hn1, hn2, hf => by
    have hlen : (c :: cs).length = cs.length + 1 := rfl
    simp only [List.all_cons, Bool.and_eq_true] at hw
    have hc0 : TR w g.S c (ys 0) (fp 0) := hc 0 (by rw [hlen]; omega)
    obtain ⟨g1, t1, v1⟩ := adoptA_sound m (fun id l1 l2 => hx id l1 (by rw [hlen]; omega)) hw.1 (ht 0 (by rw [hlen]; omega)) hc0 (hn1 0 (by rw [hlen]; omega)) (fun b hb => hf 0 (by rw [hlen]; omega) b hb)
    obtain ⟨g2, t2, l2, v2⟩ := adoptT_sound cs (x + 8) t1.m (fun k => ys (k + 1)) (fun k => fp (k + 1))
      (fun id l1 l2 => by rw [(t1.out id (by omega)).1]; exact hx id (by omega) (by rw [hlen]; omega)) hw.2
      (fun k hk => by
        have := hc (k + 1) (by rw [hlen]; omega)
        rw [t1.s]; exact this)
      (fun k hk => ht (k + 1) (by rw [hlen]; omega)) (fun k hk => hn1 (k + 1) (by rw [hlen]; omega)) (fun i j hij hj => hn2 (i + 1) (j + 1) (by omega) (by rw [hlen]; omega))
      (fun k hk b hb => by
        obtain ⟨q1, q2, q3⟩ := hf (k + 1) (by rw [hlen]; omega) b hb
        refine ⟨q1, fun id ob h hb' => ?_, by rw [t1.s]; exact q3⟩
        by_cases e : x ≤ id ∧ id < x + 8
        · exact hn2 0 (k + 1) (by omega) (by rw [hlen]; omega) b (t1.into id ob e.1 e.2 h b hb') hb
        · obtain ⟨o1, o2, o3⟩ := t1.out id e
          rw [o3] at h
          rw [o2] at hb'
          exact q2 id ob h hb')
    refine ⟨g2, ?_, ?_, ?_⟩
    · have := t1.trans (n := 8 * (c :: cs).length) (F := (List.range (c :: cs).length).flatMap fp) t2 (by omega) (by rw [hlen]; omega) (by rw [hlen]; omega) (by omega) (fun b hb => mem_fm.2 ⟨0, by rw [hlen]; omega, hb⟩)
        (fun b hb => by obtain ⟨k, hk, hb⟩ := mem_fm.1 hb; exact mem_fm.2 ⟨k + 1, by rw [hlen]; omega, hb⟩) (fun id l1 l2 => m.noH (hx id l1 l2))
      exact this
    · show (_ :: (adoptT (x + 8) cs).1).length = _
      simp [l2]
    · intro k hk
      rw [show (adoptT x (c :: cs)).2 = (adoptA x c).2 ++ (adoptT (x + 8) cs).2 from rfl, appW_append]
      cases k with
      | zero => exact v1.mono t2.p
      | succ k => exact v2 k (by have : k + 1 < (_ :: (adoptT (x + 8) cs).1).length := hk; simpa using this)

/-- A result, taken in. -/
theorem adopt_sound (m : MR B H w g) {x : Nat} (hx : ∀ id, x ≤ id → id < x + 64 → g.J id = none) {v : V} {y : Value} {fp : List Nat} (hw : widthOk v = true) (ht : ∀ vs, v = .tup vs → ∀ k (hk : k < vs.length) us, vs[k] ≠ .tup us) (h : TR w g.S v y fp) (hn : fp.Nodup)
    (hf : ∀ b, b ∈ fp → (b ∈ B.fp ∨ B.w.heap.size ≤ b) ∧ (∀ id ob, H id = some ob → b ∉ g.F id) ∧ ¬ g.S b) :
    ∃ g', Took B w H g x 64 (adopt x v).2 fp g' ∧ VR w g'.S g'.J (appW H (adopt x v).2) (adopt x v).1 y := by
  by_cases e : ∃ cs, v = .tup cs
  · obtain ⟨cs, rfl⟩ := e
    obtain ⟨arr, fps, rfl, hl, hc, rfl⟩ := h.tup_inv
    obtain ⟨n1, n2⟩ := nodup_fm.1 hn
    simp only [widthOk, Bool.and_eq_true, decide_eq_true_eq] at hw
    obtain ⟨g', t, l, vv⟩ := adoptT_sound cs x m (fun k => arr.getD k Go.undef) fps (fun id l1 l2 => hx id l1 (by omega)) hw.2 hc (ht cs rfl) n1 n2 (fun k hk b hb => hf b (mem_fm.2 ⟨k, hk, hb⟩))
    refine ⟨g', ⟨t.s, t.m, t.p, fun id hid => t.out id (by omega), fun id ob l1 l2 h b hb => ?_⟩, .tup (by show (adoptT x cs).1.length = _; omega) fun k hk => vv k hk⟩
    by_cases e : id < x + 8 * cs.length
    · exact t.into id ob l1 e h b hb
    · have h' : appW H (adoptT x cs).2 id = some ob := h
      rw [(t.out id (by omega)).2.2, m.noH (hx id l1 l2)] at h'
      cases h'
  · have hv1 : ∀ cs, v ≠ .tup cs := fun cs h => e ⟨cs, h⟩
    have ea : adopt x v = adoptA x v := by
      unfold adopt
      split
      · exact absurd rfl (hv1 _)
      · rfl
    have wa : wideA v = true := by
      unfold widthOk at hw
      split at hw
      · exact absurd rfl (hv1 _)
      · exact hw
    rw [ea]
    obtain ⟨g1, t1, v1⟩ := adoptA_sound m (fun id l1 l2 => hx id l1 (by omega)) wa hv1 h hn hf
    refine ⟨g1, ⟨t1.s, t1.m, t1.p, fun id h => t1.out id (by omega), fun id ob l1 l2 h b hb => ?_⟩, v1⟩
    by_cases e : id < x + 8
    · exact t1.into id ob l1 e h b hb
    · rw [(t1.out id (by omega)).2.2, m.noH (hx id l1 l2)] at h
      cases h
end

end Go.Proofs.Ytclebbjpacpbmaa.Ev
