/- The abstract interpreter: each operation. regions. Conditions: none. -/
import Derived.Test.YtacfkfdnncgjcaaEvP
section
set_option linter.unusedVariables false
set_option linter.unusedSimpArgs false
namespace Go.Proofs.Ytacfkfdnncgjcaa.Ev
open Go

/-- What an operation comes to in the model. -/
def Does (P : Program) (B : Beg) (H : Nat → Option Ob) (w : World) (g : Gh) (b : Nat) (d : D) (r : Result Next) : Prop :=
  (∃ z w' g', r = .ok (.value z) w' ∧ Out B H w g b d z w' g') ∨ (∃ w' g', r = .ok .skip w' ∧ Out B H w g b d Go.undef w' g') ∨
    ∃ f args, r = .ok (.enter f args) w ∧ Calls P f args w fun
      | .returned z, w' => ∃ g', Out B H w g b d z w' g'
      | _, _ => False

section
variable {B : Beg} {H : Nat → Option Ob} {w : World} {g : Gh} {P : Program} {b : Nat} {d : D}

theorem Does.val {s : Sem Value} (h : ∃ z w' g', s.run P w = .ok z w' ∧ Out B H w g b d z w' g') : Does P B H w g b d ((do pure (.value (← s)) : Sem Next).run P w) := by
  obtain ⟨z, w', g', h1, h2⟩ := h
  exact .inl ⟨z, w', g', by simp only [Sem.run_bind, h1, Result.andThen_ok, Sem.run_pure], h2⟩
theorem Does.pure (m : MR B H w g) {s : Sem Value} {v : V} {rd : List Nat} (h : ∃ z, s.run P w = .ok z w ∧ VR w g.S g.J H v z) : Does P B H w g b { v := v, rd := rd } ((do pure (.value (← s)) : Sem Next).run P w) := by
  obtain ⟨z, h1, h2⟩ := h
  exact .val ⟨z, w, g, h1, .same m rfl h2⟩
theorem Does.now (m : MR B H w g) {v : V} {z : Value} (h : VR w g.S g.J H v z) {r : Sem Next} (e : r.run P w = .ok (.value z) w) : Does P B H w g b { v := v } (r.run P w) := .inl ⟨z, w, g, e, .same m rfl h⟩

theorem Goes.does {f : FuncId} {args : Array Value} (h : Goes P f args w fun z w' => ∃ g', Out B H w g b d z w' g') : Does P B H w g b d ((callFunc f args).run P w) := by
  rcases h with ⟨f', args', h1, h2⟩ | ⟨z, w', h1, g', h2⟩
  · exact .inr (.inr ⟨f', args', h1, h2⟩)
  · exact .inl ⟨z, w', g', h1, h2⟩

theorem evL_sound {fr : Nat → V} {a : Act} (sl : ∀ t, VR w g.S g.J H (fr t) (a.tmps.getD t Go.undef)) {xs : Array Operand} {vs : List V} (h : evL fr xs.toList = some vs) :
    vs.length = (xs.map a.eval).size ∧ ∀ k (hk : k < vs.length), VR w g.S g.J H vs[k] ((xs.map a.eval).getD k Go.undef) := by
  have hl := mapM_len h
  refine ⟨by simpa using hl, fun k hk => ?_⟩
  have hk' : k < xs.toList.length := by omega
  have hks : k < xs.size := by simpa using hk'
  have := ev_sound sl (mapM_at h k hk' hk)
  have e : (xs.map a.eval).getD k Go.undef = a.eval xs.toList[k] := by
    simp [Array.getD, hks]
  rw [e]; exact this

theorem two_of {xs : Array Value} (h : xs.size = 2) : xs = #[xs.getD 0 Go.undef, xs.getD 1 Go.undef] := by
  apply Array.ext
  · simp [h]
  · intro i h1 h2
    have : i = 0 ∨ i = 1 := by omega
    rcases this with rfl | rfl
    · have : 0 < xs.size := by omega
      simp [Array.getD, this]
    · have : 1 < xs.size := by omega
      simp [Array.getD, this]
theorem two_of' {xs : Array TypeId} (h : xs.size = 2) : xs = #[xs.getD 0 0, xs.getD 1 0] := by
  apply Array.ext
  · simp [h]
  · intro i h1 h2
    have : i = 0 ∨ i = 1 := by omega
    rcases this with rfl | rfl
    · have : 0 < xs.size := by omega
      simp [Array.getD, this]
    · have : 1 < xs.size := by omega
      simp [Array.getD, this]
theorem one_of {xs : Array Value} (h : xs.size = 1) : xs = #[xs.getD 0 Go.undef] := by
  apply Array.ext
  · simp [h]
  · intro i h1 h2
    have : i = 0 := by omega
    subst this
    have : 0 < xs.size := by omega
    simp [Array.getD, this]

theorem blt_sound (m : MR B H w g) (hb0 : g.J b = none) {f : Builtin} {ts : Array TypeId} {ty : TypeId} {cs : Array Bool} {vs : List V} {xs : Array Value} (h : bltD P H b f ts vs = some d) (hl : vs.length = xs.size) (hv : ∀ k (hk : k < vs.length), VR w g.S g.J H vs[k] (xs.getD k Go.undef)) :
    Does P B H w g b d ((builtin f ts ty cs xs).run P w) := by
  unfold bltD at h
  split at h
  · -- len
    rename_i x
    have hx := one_of (xs := xs) (by simpa using hl.symm)
    have hv0 := hv 0 (by simp)
    simp only [List.getElem_cons_zero] at hv0
    split at h
    · rename_i n e hn hu
      split at h
      · cases h
      · rename_i hns
        simp only [ret, Option.some.injEq] at h
        subst h
        have := len_sound (P := P) (ts := ts) (ty := ty) (r := x) hn hv0 (.inl ⟨_, hu, fun s e => hns s e⟩)
        rw [hx]
        exact .pure m ⟨_, this, int_of⟩
    · rename_i n hn hu
      split at h
      · rename_i s
        simp only [ret, Option.some.injEq] at h
        subst h
        have := len_sound (P := P) (ts := ts) (ty := ty) (r := V.str s) hn hv0 (.inr ⟨hu, s, rfl⟩)
        rw [hx]
        exact .pure m ⟨_, this, int_of⟩
      · cases h
    · cases h
  · -- append
    rename_i s x
    split at h
    · rename_i hts
      have hx := two_of (xs := xs) (by simpa using hl.symm)
      have hv0 := hv 0 (by simp)
      have hv1 := hv 1 (by simp)
      simp only [List.getElem_cons_zero] at hv0
      simp only [List.getElem_cons_succ, List.getElem_cons_zero] at hv1
      obtain ⟨z, w', g', h1, h2⟩ := append_sound (ty := ty) m hb0 h hv0 hv1
      rw [hx, two_of' hts]
      exact .val ⟨z, w', g', h1, h2⟩
    · cases h
  · -- copy
    rename_i s x
    split at h
    · rename_i hts
      have hx := two_of (xs := xs) (by simpa using hl.symm)
      have hv0 := hv 0 (by simp)
      have hv1 := hv 1 (by simp)
      simp only [List.getElem_cons_zero] at hv0
      simp only [List.getElem_cons_succ, List.getElem_cons_zero] at hv1
      obtain ⟨z, w', g', h1, h2⟩ := copy_sound (b := b) (ty := ty) (t2 := ts.getD 1 0) m h hv0 hv1
      rw [hx, two_of' hts]
      exact .val ⟨z, w', g', h1, h2⟩
    · cases h
  · -- max
    obtain ⟨r, hr, h⟩ := Option.bind_eq_some_iff.1 h
    simp only [ret, Option.some.injEq] at h
    subst h
    unfold mmV at hr
    split at hr
    · rename_i k a rest
      cases hxs : xs.toList with
      | nil =>
        have : xs.size = 0 := by rw [← Array.length_toList, hxs]; rfl
        simp [this] at hl
      | cons x0 xr =>
        have hlr : rest.length = xr.length := by
          have : xs.size = (x0 :: xr).length := by rw [← hxs, Array.length_toList]
          simp at hl this
          omega
        have hget : ∀ i (hi : i < (x0 :: xr).length), xs.getD i Go.undef = (x0 :: xr)[i] := fun i hi => by
          have hi' : i < xs.toList.length := by rw [hxs]; exact hi
          have : i < xs.size := by simpa using hi'
          simp only [Array.getD, this, dif_pos, Array.getInternal_eq_getElem, ← hxs]
          simp
        have h0 := hv 0 (by simp)
        rw [hget 0 (by simp)] at h0
        simp only [List.getElem_cons_zero] at h0
        obtain rfl := h0.int_inv
        obtain ⟨z, hz, hvz⟩ := mm_sound (P := P) (g := g) (H := H) (w := w) (f := mxI) (f2 := Builtin.max2) (fun k a b => by simp [Builtin.max2, mxI]) (xs := xr) hlr (fun i hi hi' => by
          have := hv (i + 1) (by simpa using hi)
          rw [hget (i + 1) (by simpa using hi')] at this
          exact this) hr
        refine .pure m ⟨z, ?_, hvz⟩
        simp only [Builtin.max_, hxs]
        exact hz
    · cases hr
  · -- min
    obtain ⟨r, hr, h⟩ := Option.bind_eq_some_iff.1 h
    simp only [ret, Option.some.injEq] at h
    subst h
    unfold mmV at hr
    split at hr
    · rename_i k a rest
      cases hxs : xs.toList with
      | nil =>
        have : xs.size = 0 := by rw [← Array.length_toList, hxs]; rfl
        simp [this] at hl
      | cons x0 xr =>
        have hlr : rest.length = xr.length := by
          have : xs.size = (x0 :: xr).length := by rw [← hxs, Array.length_toList]
          simp at hl this
          omega
        have hget : ∀ i (hi : i < (x0 :: xr).length), xs.getD i Go.undef = (x0 :: xr)[i] := fun i hi => by
          have hi' : i < xs.toList.length := by rw [hxs]; exact hi
          have : i < xs.size := by simpa using hi'
          simp only [Array.getD, this, dif_pos, Array.getInternal_eq_getElem, ← hxs]
          simp
        have h0 := hv 0 (by simp)
        rw [hget 0 (by simp)] at h0
        simp only [List.getElem_cons_zero] at h0
        obtain rfl := h0.int_inv
        obtain ⟨z, hz, hvz⟩ := mm_sound (P := P) (g := g) (H := H) (w := w) (f := mnI) (f2 := Builtin.min2) (fun k a b => by simp [Builtin.min2, mnI]) (xs := xr) hlr (fun i hi hi' => by
          have := hv (i + 1) (by simpa using hi)
          rw [hget (i + 1) (by simpa using hi')] at this
          exact this) hr
        refine .pure m ⟨z, ?_, hvz⟩
        simp only [Builtin.min_, hxs]
        exact hz
    · cases hr
  · cases h

theorem getD_append {x y : Array Value} {k : Nat} : (x ++ y).getD k Go.undef = if k < x.size then x.getD k Go.undef else y.getD (k - x.size) Go.undef := by
  by_cases h : k < x.size
  · rw [if_pos h]
    have h2 : k < (x ++ y).size := by simp; omega
    simp only [Array.getD, h, h2, dif_pos, Array.getInternal_eq_getElem, Array.getElem_append_left]
  · rw [if_neg h]
    by_cases h2 : k - x.size < y.size
    · have h3 : k < (x ++ y).size := by simp; omega
      simp only [Array.getD, h3, h2, dif_pos, Array.getInternal_eq_getElem]
      rw [Array.getElem_append_right (by omega)]
    · have h3 : ¬ k < (x ++ y).size := by simp; omega
      simp only [Array.getD, h3, h2, dif_neg, not_false_eq_true]

theorem append_rel {S : Nat → Prop} {J : Nat → Option (Option Nat)} {l1 l2 : List V} {x y : Array Value} (h1 : l1.length = x.size) (v1 : ∀ k (hk : k < l1.length), VR w S J H l1[k] (x.getD k Go.undef)) (v2 : ∀ k (hk : k < l2.length), VR w S J H l2[k] (y.getD k Go.undef)) :
    ∀ k (hk : k < (l1 ++ l2).length), VR w S J H (l1 ++ l2)[k] ((x ++ y).getD k Go.undef) := fun k hk => by
  rw [getD_append]
  by_cases h : k < l1.length
  · rw [if_pos (by omega), List.getElem_append_left h]; exact v1 k h
  · rw [if_neg (by omega), List.getElem_append_right (by omega), ← h1]
    exact v2 (k - l1.length) (by rw [List.length_append] at hk; omega)

theorem op_sound {fr : Nat → V} {a : Act} {modes : FuncId → List Nat} {call : FuncId → List V → Option Res} (m : MR B H w g) (sl : ∀ t, VR w g.S g.J H (fr t) (a.tmps.getD t Go.undef)) (hb : ∀ id, b ≤ id → id < b + 64 → g.J id = none)
    (hc : ∀ f vals r, call f vals = some r → CallOk P f vals r) (o : Oper) (e : opD P modes B.strict call fr H b o.op = some d) : Does P B H w g b d ((execOp a.eval o).run P w) := by
  have hb0 : g.J b = none := hb b (Nat.le_refl _) (by omega)
  obtain ⟨dst, op, type, pos, after, guard⟩ := o
  simp only at e
  unfold execOp
  cases op <;> simp only [opD, reduceCtorEq] at e ⊢
  case move x =>
    obtain ⟨v, hv, e⟩ := Option.bind_eq_some_iff.1 e
    simp only [ret, Option.some.injEq] at e
    subst e
    exact .now m (ev_sound sl hv) rfl
  case assign x =>
    obtain ⟨v, hv, e⟩ := Option.bind_eq_some_iff.1 e
    simp only [ret, Option.some.injEq] at e
    subst e
    exact .now m (ev_sound sl hv) rfl
  case pick c x y =>
    split at e
    · rename_i t ht
      obtain ⟨v, hv, e⟩ := Option.bind_eq_some_iff.1 e
      simp only [ret, Option.some.injEq] at e
      subst e
      have hcb := (ev_sound sl ht).bool_inv
      have hv' := ev_sound sl hv
      refine .now m hv' ?_
      rw [hcb]
      cases t <;> rfl
    · cases e
  case alloc t =>
    obtain ⟨cs, hcs, rfl⟩ := Option.map_eq_some_iff.1 e
    exact .val (alloc_sound m hb0 hcs)
  case box t x =>
    split at e
    · rename_i cs hcs
      simp only [Option.some.injEq] at e
      subst e
      obtain ⟨v, hv, hvc⟩ := Option.bind_eq_some_iff.1 hcs
      exact .val (box_sound m hb0 hvc (ev_sound sl hv))
    · cases e
  case build t ps =>
    split at e
    · rename_i z vs hz hag hvs
      split at e
      · rename_i hpl
        obtain ⟨cs, hcs, e⟩ := Option.bind_eq_some_iff.1 e
        simp only [ret, Option.some.injEq] at e
        subst e
        exact .pure m (build_sound sl hz hag hvs hpl hcs)
      · cases e
    · cases e
  case buildSlice t n ps =>
    split at e
    · rename_i e0 sz bytes vs ht hvs
      split at e
      · rename_i z hz
        split at e
        · rename_i hcond
          split at e
          · rename_i cs hcs
            exact .val (buildSlice_sound m hb0 sl ht hvs hz hcond hcs e)
          · cases e
        · cases e
      · cases e
    · cases e
  case load t x =>
    obtain ⟨v, hv, e⟩ := Option.bind_eq_some_iff.1 e
    obtain ⟨z, g', h1, h2⟩ := load_sound m hb e (ev_sound sl hv)
    exact .val ⟨z, w, g', h1, h2⟩
  case store t x y =>
    split at e
    · rename_i va vx ha hx
      obtain ⟨hdv, w', g', h1, h2⟩ := store_sound (b := b) m e (ev_sound sl ha) (ev_sound sl hx)
      exact .inr (.inl ⟨w', g', by simp only [Sem.run_bind, h1, Result.andThen_ok, Sem.run_pure], h2⟩)
    · cases e
  case nilCheck x =>
    split at e
    · rename_i id ver off hv
      simp only [ret, Option.some.injEq] at e
      subst e
      have hv' := ev_sound sl hv
      obtain ⟨a0, ha, _⟩ := hv'.ptr_inv
      refine .now m hv' ?_
      rw [ha]
      rfl
    · rename_i cs off hv
      simp only [ret, Option.some.injEq] at e
      subst e
      have hv' := ev_sound sl hv
      obtain ⟨ad, f, ha, _⟩ := hv'.ref_inv
      refine .now m hv' ?_
      rw [ha]
      rfl
    · rename_i f fi ca hv
      simp only [ret, Option.some.injEq] at e
      subst e
      have hv' := ev_sound sl hv
      obtain ⟨fx, cx, ha, _⟩ := hv'.func_inv
      refine .now m hv' ?_
      rw [ha]
      rfl
    · cases e
  case binOp op t x y t2 =>
    split at e
    · rename_i va vy ha hy
      obtain ⟨v, hv, e⟩ := Option.bind_eq_some_iff.1 e
      simp only [ret, Option.some.injEq] at e
      subst e
      exact .pure m (binV_sound hv (ev_sound sl ha) (ev_sound sl hy) fun c hc => by subst hc; rfl)
    · cases e
  case unOp op t x =>
    obtain ⟨va, ha, e⟩ := Option.bind_eq_some_iff.1 e
    obtain ⟨v, hv, e⟩ := Option.bind_eq_some_iff.1 e
    simp only [ret, Option.some.injEq] at e
    subst e
    exact .pure m (unV_sound hv (ev_sound sl ha))
  case convert src dst' x =>
    obtain ⟨va, ha, e⟩ := Option.bind_eq_some_iff.1 e
    exact .val (conv_sound m hb0 e (ev_sound sl ha))
  case makeInterface t x =>
    split at e
    · cases e
    · rename_i d0 v hni hu hv
      simp only [ret, Option.some.injEq] at e
      subst e
      refine .pure m ⟨.iface t (a.eval x), ?_, .iface (ev_sound sl hv)⟩
      unfold Instr.makeInterface
      simp only [Sem.run_bind, run_underlying hu, Result.andThen_ok]
      cases d0 <;> first | rfl | exact absurd hu (hni _)
    · cases e
  case makeFunc f fi ca =>
    split at e
    · rename_i x y hx hy
      simp only [ret, Option.some.injEq] at e
      subst e
      obtain ⟨l1, v1⟩ := evL_sound sl hx
      obtain ⟨l2, v2⟩ := evL_sound sl hy
      exact .pure m ⟨_, rfl, .func l1 l2 v1 v2⟩
    · cases e
  case makeSlice t l c =>
    split at e
    · rename_i e0 sz bytes k1 l0 k2 c0 ht hl hc0
      split at e
      · rename_i z hz
        split at e
        · rename_i hcond
          simp only [Option.some.injEq] at e
          subst e
          have h1 := (ev_sound sl hl).int_inv
          have h2 := (ev_sound sl hc0).int_inv
          rw [h1, h2]
          exact .val (makeSlice_sound m hb0 ht hz hcond)
        · cases e
      · cases e
    · cases e
  case slice t x lo hi mx =>
    split at e
    · rename_i vx vlo vhi vmx hx hlo hhi hmx
      obtain ⟨z, h1, h2, h3⟩ := sliceD_sound e (ev_sound sl hx) (optV_rel sl hlo) (optV_rel sl hhi) (optV_rel sl hmx)
      exact .val ⟨z, w, g, h1, .same m h3 h2⟩
    · cases e
  case fieldAddr t x f =>
    split at e
    · rename_i o ag n id ver off hf hx
      split at e
      · cases e
      · rename_i hn
        simp only [ret, Option.some.injEq] at e
        subst e
        obtain ⟨a0, ha, hv⟩ := ptr_add (o := o) (ev_sound sl hx)
        rw [ha]
        exact .pure m ⟨_, fieldAt_run hf hn a0, hv⟩
    · rename_i o ag n cs off hf hx
      split at e
      · cases e
      · rename_i hn
        simp only [ret, Option.some.injEq] at e
        subst e
        obtain ⟨a0, ha, hv⟩ := ref_add (o := o) (ev_sound sl hx)
        rw [ha]
        exact .pure m ⟨_, fieldAt_run hf hn a0, hv⟩
    · cases e
  case field t x f =>
    split at e
    · rename_i o ag n cs hf hx
      obtain ⟨fields, fd, hu, hfd, rfl, hag, hsz⟩ := fld_und hf
      obtain ⟨arr, ha, hl, hc, h1⟩ := (ev_sound sl hx).agg_inv
      have key : ∃ v, d = { v := v } ∧ (if ag then (if fd.offset + n ≤ cs.length then some (.agg ((cs.drop fd.offset).take n)) else none) else cs[fd.offset]?) = some v := by
        cases ag with
        | true =>
          simp only [if_true] at e ⊢
          split at e
          · rename_i hfit
            simp only [ret, Option.some.injEq] at e
            exact ⟨_, e.symm, by rw [if_pos hfit]⟩
          · cases e
        | false =>
          simp only [Bool.false_eq_true, if_false] at e ⊢
          obtain ⟨v, hv, e⟩ := Option.bind_eq_some_iff.1 e
          simp only [ret, Option.some.injEq] at e
          exact ⟨v, e.symm, hv⟩
      obtain ⟨v, rfl, hv⟩ := key
      obtain ⟨z, hz, hvz⟩ := part_sound hag hsz hl hc h1 hv
      refine .pure m ⟨z, ?_, hvz⟩
      rw [ha]
      simp [Instr.field, run_underlying hu, hfd, asAgg, hz]
    · cases e
  case indexAddr t x i =>
    split at e
    · rename_i e0 sz bytes _ id ver off len k i0 ht hx hi
      split at e
      · rename_i hcond
        simp only [ret, Option.some.injEq] at e
        subst e
        have hvx := ev_sound sl hx
        obtain ⟨A, c, ha, _, hlc, _, hA, _⟩ := hvx.sl_inv
        rcases hA with hA | ⟨a0, rfl⟩
        · omega
        · have hik := (ev_sound sl hi).int_inv
          rw [ha, hik]
          refine .pure m ⟨_, indexAt_slice_run ht a0 k i0 hcond.1 hcond.2, ?_⟩
          rw [ha] at hvx
          obtain ⟨A', c', ha', hj, hlc', hcm', hA', hp⟩ := hvx.sl_inv
          simp only [Value.slice.injEq] at ha'
          obtain ⟨ha1, _, rfl⟩ := ha'
          subst ha1
          refine .ptr hj fun ob hob => ⟨(hp ob hob).1, fun ev => ?_⟩
          rcases (hp ob hob).2 ev with ⟨h0, h0', _⟩ | ⟨_, blk, hJ, hA2, _⟩
          · omega
          · injection hA2 with hA2
            subst hA2
            exact ⟨blk, hJ, by rw [addr_add]⟩
      · cases e
    · rename_i e0 sz bytes _ n cs k i0 ht hx hi
      split at e
      · rename_i hcond
        simp only [ret, Option.some.injEq] at e
        subst e
        obtain ⟨A, c, f, ha, hA, hn, hm', hp, h1⟩ := (ev_sound sl hx).list_inv
        have hik := (ev_sound sl hi).int_inv
        rw [ha, hik]
        rcases hA with hA | ⟨ad, rfl, hS, hd⟩
        · subst hA
          simp at hcond
        · exact .pure m ⟨_, indexAt_slice_run ht ad k i0 hcond.1 hcond.2.1, .pure (.ref f hS hd hp h1)⟩
      · cases e
    · rename_i n ag sz id ver off k i0 hs0 ht hx hi
      split at e
      · rename_i hcond
        simp only [ret, Option.some.injEq] at e
        subst e
        obtain ⟨a0, ha, hv⟩ := ptr_add (o := i0.toNat * sz) (ev_sound sl hx)
        have hik := (ev_sound sl hi).int_inv
        rw [ha, hik]
        exact .pure m ⟨_, indexAt_array_run ht a0 k i0 hcond.1 hcond.2, hv⟩
      · cases e
    · rename_i n ag sz cs off k i0 hs0 ht hx hi
      split at e
      · rename_i hcond
        simp only [ret, Option.some.injEq] at e
        subst e
        obtain ⟨a0, ha, hv⟩ := ref_add (o := i0.toNat * sz) (ev_sound sl hx)
        have hik := (ev_sound sl hi).int_inv
        rw [ha, hik]
        exact .pure m ⟨_, indexAt_array_run ht a0 k i0 hcond.1 hcond.2, hv⟩
      · cases e
    · cases e
  case index t x i =>
    split at e
    · rename_i s k i0 hu hx hi
      split at e
      · rename_i h0
        obtain ⟨c, hc0, e⟩ := Option.bind_eq_some_iff.1 e
        simp only [ret, Option.some.injEq] at e
        subst e
        have h1 := (ev_sound sl hx).str_inv
        have h2 := (ev_sound sl hi).int_inv
        rw [h1, h2]
        exact .pure m ⟨_, index_str_run hu h0 hc0, int_of⟩
      · cases e
    · cases e
  case extract x i =>
    split at e
    · rename_i vs hx
      obtain ⟨v, hv, e⟩ := Option.bind_eq_some_iff.1 e
      simp only [ret, Option.some.injEq] at e
      subst e
      obtain ⟨arr, ha, hl, hvs⟩ := (ev_sound sl hx).tup_inv
      obtain ⟨hi, rfl⟩ := List.getElem?_eq_some_iff.1 hv
      have : arr[i]? = some (arr.getD i Go.undef) := getD_of (by omega)
      refine .pure m ⟨arr.getD i Go.undef, ?_, hvs i hi⟩
      rw [ha]
      simp only [Instr.extract, this]
      rfl
    · cases e
  case call c =>
    unfold callOp at e
    split at e
    · rename_i f hcal
      obtain ⟨vs, hvs, e⟩ := Option.bind_eq_some_iff.1 e
      obtain ⟨hl, hv⟩ := evL_sound sl hvs
      simp only [resolve, hcal, Sem.run_bind, Sem.run_pure, Result.andThen_ok, invoke]
      exact blt_sound m hb0 e hl hv
    · rename_i gop hcal
      obtain ⟨vs, hvs, e⟩ := Option.bind_eq_some_iff.1 e
      obtain ⟨x, hx, e⟩ := Option.bind_eq_some_iff.1 e
      obtain ⟨fv, hfv, hx⟩ := Option.bind_eq_some_iff.1 hx
      obtain ⟨hl, hv⟩ := evL_sound sl hvs
      unfold calleeV at hx
      split at hx
      · rename_i f fi ca
        simp only [Option.some.injEq] at hx
        subst hx
        obtain ⟨fx, cx, ha, l1, l2, v1, v2⟩ := (ev_sound sl hfv).func_inv
        have hlen : (fx ++ c.args.map a.eval ++ cx).size = (fi ++ vs ++ ca).length := by simp only [Array.size_append, List.length_append]; omega
        have hgo := call_sound m hb (fun vals r h => hc f vals r h) e hlen (append_rel (by simp only [Array.size_append, List.length_append]; omega) (append_rel l1 v1 hv) v2)
        have := hgo.does
        simpa only [resolve, hcal, ha, Deferred.ofValue, Sem.run_bind, Sem.run_pure, Result.andThen_ok, invoke] using this
      · cases hx
    · cases e
end

end Go.Proofs.Ytacfkfdnncgjcaa.Ev
end

section
set_option linter.unusedVariables false
set_option linter.unusedSimpArgs false
namespace Go.Proofs.Ytacfkfdnncgjcaa.Ev
open Go

section
variable {B : Beg} {H : Nat → Option Ob} {w : World} {g : Gh} {P : Program} {b : Nat}

theorem put_get {a : Act} {dst : Option Nat} {z : Value} {t : Nat} (hd : ∀ t, dst = some t → t < a.tmps.size) : (a.put dst z).tmps.getD t Go.undef = if dst = some t then z else a.tmps.getD t Go.undef := by
  cases dst with
  | none => simp [Act.put]
  | some t0 =>
    have h0 := hd t0 rfl
    simp only [Act.put, Option.some.injEq]
    by_cases e : t0 = t
    · subst e
      rw [if_pos rfl]
      simp [Array.getD, h0]
    · rw [if_neg e]
      simp only [Array.getD, Array.size_setIfInBounds]
      split
      · simp only [Array.getInternal_eq_getElem]
        rw [Array.getElem_setIfInBounds_ne (by assumption) e]
      · rfl

theorem updO_get {fr : Nat → V} {dst : Option Nat} {v : V} {t : Nat} : updO fr dst v t = if dst = some t then v else fr t := by
  cases dst with
  | none => simp [updO]
  | some t0 =>
    simp only [updO, upd, Option.some.injEq]
    by_cases e : t = t0
    · subst e; simp
    · rw [if_neg e, if_neg (fun h => e h.symm)]

theorem SR.put {fr : Nat → V} {hi hi' : Nat → Prop} {a : Act} {d : D} {z : Value} {w' : World} {g' : Gh} {dst : Option Nat} (s : SR B fr H hi a w g) (o : Out B H w g b d z w' g') (hd : ∀ t, dst = some t → t < B.nt)
    (hh : ∀ id, hi id ∨ (b ≤ id ∧ id < b + 64) → hi' id) : SR B (updO fr dst d.v) (appW H d.wr) hi' (a.put dst z) w' g' where
  df := by cases dst <;> exact s.df
  sz := by cases dst <;> simp [Act.put, s.sz]
  sl := fun t => by
    rw [put_get (fun t h => by rw [s.sz]; exact hd t h), updO_get]
    by_cases e : dst = some t
    · rw [if_pos e, if_pos e]; exact o.v
    · rw [if_neg e, if_neg e]; exact (s.sl t).mono o.p
  ids := fun id h => hh id ((o.ids id h).imp (s.ids id) fun h => h)
  m := o.m
  kp := fun p hp => (s.kp p hp).mono o.p

theorem VR.bool_of {v : V} {c : Bool} {S : Nat → Prop} {J : Nat → Option (Option Nat)} (h : VR w S J H v (.bool c)) : v = .bool c ∨ v = .any := by
  cases h with
  | any => exact .inr rfl
  | pure h => cases h; exact .inl rfl

theorem want_sound {fr : Nat → V} {hi : Nat → Prop} {a : Act} (s : SR B fr H hi a w g) {ops : Array Oper} (hd : ∀ o, o ∈ ops.toList → ∀ t, o.dst = some t → t < B.nt) {o : Oper} {c : Bool} (h : wantV ops.toList fr o = some c) :
    Region.wanted o (yielded ops a.tmps) = c := by
  unfold wantV at h
  unfold Region.wanted
  split at h
  · rename_i hg
    rw [hg]
    simpa using h
  · rename_i j want hg
    rw [hg]
    simp only
    unfold yielded
    rw [Array.getElem?_toList] at h
    split at h
    · rename_i t ht
      rw [ht]
      obtain ⟨oj, hoj, hdst⟩ := Option.bind_eq_some_iff.1 ht
      have hlt : t < a.tmps.size := by
        rw [s.sz]
        exact hd oj (by
          have := Array.mem_of_getElem? hoj
          simpa using this) t hdst
      have hget : a.tmps[t]? = some (a.tmps.getD t Go.undef) := getD_of hlt
      simp only [Option.bind_some, hget]
      have hv := s.sl t
      split at h
      · rename_i c' hc
        rw [hc] at hv
        rw [hv.bool_inv]
        simp only [Option.some.injEq] at h
        rw [← h]
        cases c' <;> cases want <;> rfl
      · cases h
      · rename_i hn1 hn2
        simp only [Option.some.injEq] at h
        rw [← h]
        split
        · rename_i c' hc
          injection hc with hc
          rw [hc] at hv
          rcases hv.bool_of with e | e
          · exact absurd e (hn1 _)
          · exact absurd e hn2
        · rfl
    · rename_i hn
      rw [hn]
      simp only [Option.some.injEq] at h
      rw [← h]
      rfl

/-- One operation of a region. -/
theorem step_sound {E : Env} {call : FuncId → List V → Option Res} (hc : ∀ f vals r, call f vals = some r → CallOk E.P f vals r) {ops : Array Oper} (hd : ∀ o, o ∈ ops.toList → ∀ t, o.dst = some t → t < B.nt) {i : Nat} {o : Oper} (ho : ops[i]? = some o)
    {st : St} {d : D} {hi hi' : Nat → Prop} {a : Act} (e : stepD E B.strict call ops.toList i o st = some d) (s : SR B st.fr st.H hi a w g) (hb : ∀ id, st.nx + 64 * i ≤ id → id < st.nx + 64 * i + 64 → g.J id = none)
    (hh : ∀ id, hi id ∨ (st.nx + 64 * i ≤ id ∧ id < st.nx + 64 * i + 64) → hi' id) {K : Act → World → Prop} {Q : Exit → Act → World → Prop} (hK : ∀ a' w' g', SR B (st.app o.dst d).fr (st.app o.dst d).H hi' a' w' g' → K a' w') :
    wpOp E.P ops Q i K a w := by
  have hod : ∀ t, o.dst = some t → t < B.nt := hd o (by
    have := Array.mem_of_getElem? ho
    simpa using this)
  unfold wpOp
  simp only [ho]
  unfold stepD at e
  split at e
  · rename_i hw
    rw [want_sound s hd hw]
    simp only [if_true]
    left
    unfold Oper.wp
    rcases op_sound s.m s.sl hb hc o e with ⟨z, w', g', hr, ho'⟩ | ⟨w', g', hr, ho'⟩ | ⟨f, args, hr, hcall⟩
    · rw [hr]
      exact hK _ _ g' (s.put ho' hod hh)
    · rw [hr]
      exact hK _ _ g' (s.put ho' hod hh)
    · rw [hr]
      refine hcall.mono fun en w' hen => ?_
      cases en with
      | returned z =>
        obtain ⟨g', ho'⟩ := hen
        exact hK _ _ g' (s.put ho' hod hh)
      | panicked c => exact hen.elim
      | outgrown => exact hen.elim
  · rename_i hw
    rw [want_sound s hd hw]
    simp only [Bool.false_eq_true, if_false]
    simp only [ret, Option.some.injEq] at e
    subst e
    exact hK _ _ g (s.put (b := st.nx + 64 * i) (Out.same s.m rfl (.pure .undef)) hod hh)
  · cases e

theorem wpOps_step {ops : Array Oper} {Q : Exit → Act → World → Prop} {i : Nat} {rest : List Nat} {a : Act} (h : wpOp P ops Q i (wpOps P ops Q rest) a w) : wpOps P ops Q (i :: rest) a w := by
  rw [wpOps_cons]; exact h

/-- A region whose order is the text's. -/
theorem seq_sound {E : Env} {call : FuncId → List V → Option Res} (hc : ∀ f vals r, call f vals = some r → CallOk E.P f vals r) {ops : Array Oper} (hd : ∀ o, o ∈ ops.toList → ∀ t, o.dst = some t → t < B.nt) {Q : Exit → Act → World → Prop} :
    ∀ (rest : List Oper) (i : Nat) (st : St) (acc : List D) (st' : St) (ds : List D) (a : Act) (w : World) (g : Gh), (∀ k (hk : k < rest.length), ops[i + k]? = some rest[k]) → runO E B.strict call ops.toList rest i st acc = some (st', ds) →
      SR B st.fr st.H (fun id => id < st.nx + 64 * i) a w g → (∀ a' w' g', SR B st'.fr st'.H (fun id => id < st'.nx) a' w' g' → Q .normal a' w') → wpOps E.P ops Q (List.range' i rest.length) a w
  | [], i, st, acc, st', ds, a, w, g, _, e, s, hQ => by
    simp only [runO, Option.some.injEq, Prod.mk.injEq] at e
    obtain ⟨rfl, rfl⟩ := e
    exact hQ a w g s
  | o :: rest, i, st, acc, st', ds, a, w, g, hops, e, s, hQ => by
    simp only [runO] at e
    split at e
    · rename_i d hd'
      rw [List.length_cons, List.range'_succ]
      refine wpOps_step (step_sound hc hd (hops 0 (by simp)) hd' s (fun id h1 _ => ?_) (hi' := fun id => id < st.nx + 64 * (i + 1)) (fun id h => by rcases h with h | h <;> omega) fun a' w' g' s' => ?_)
      · cases hj : g.J id with
        | none => rfl
        | some x =>
          have := s.ids id (by rw [hj]; simp)
          omega
      · exact seq_sound hc hd rest (i + 1) (st.app o.dst d) _ st' ds a' w' g' (fun k hk => by
          have := hops (k + 1) (by simpa using hk)
          rw [show i + 1 + k = i + (k + 1) by omega]
          exact this) e s' hQ
    · cases e
end

end Go.Proofs.Ytacfkfdnncgjcaa.Ev
end
