/- The abstract interpreter: what abstract values say of memory. Conditions: none. -/
import Derived.Test.YtclebbjpacpbmaaEvB
set_option linter.unusedVariables false
set_option linter.unusedSimpArgs false
namespace Go.Proofs.Ytclebbjpacpbmaa.Ev
open Go

/-! ### Lists of blocks -/
theorem mem_fm {f : Nat → List Nat} {n b : Nat} : b ∈ (List.range n).flatMap f ↔ ∃ k, k < n ∧ b ∈ f k := by
  simp [List.mem_flatMap, List.mem_range]

theorem nodup_fm {f : Nat → List Nat} : ∀ {n : Nat}, ((List.range n).flatMap f).Nodup ↔ (∀ k, k < n → (f k).Nodup) ∧ ∀ i j, i < j → j < n → ∀ b, b ∈ f i → b ∉ f j
  | 0 => by simp
  | n + 1 => by
    rw [List.range_succ, List.flatMap_append, List.nodup_append, nodup_fm]
    simp only [List.flatMap_cons, List.flatMap_nil, List.append_nil]
    constructor
    · rintro ⟨⟨h1, h2⟩, h3, h4⟩
      refine ⟨fun k hk => ?_, fun i j hij hj b hb hb' => ?_⟩
      · rcases Nat.lt_or_ge k n with h | h
        · exact h1 k h
        · obtain rfl : k = n := by omega
          exact h3
      · rcases Nat.lt_or_ge j n with h | h
        · exact h2 i j hij h b hb hb'
        · obtain rfl : j = n := by omega
          exact h4 b (mem_fm.2 ⟨i, hij, hb⟩) b hb' rfl
    · rintro ⟨h1, h2⟩
      refine ⟨⟨fun k hk => h1 k (by omega), fun i j hij hj => h2 i j hij (by omega)⟩, h1 n (by omega), fun x hx y hy e => ?_⟩
      subst e
      obtain ⟨k, hk, hb⟩ := mem_fm.1 hx
      exact h2 k n hk (by omega) x hb hy

/-! ### Values that lead to nothing of a frame's own; S: blocks that nothing writes -/
theorem cell_of_heap {w w' : World} {a : Addr} (h : w'.heap[a.block]? = w.heap[a.block]?) : w'.cell? a = w.cell? a := by
  simp only [World.cell?, h]

theorem block_add (a : Addr) (k : Nat) : (a.add k).block = a.block := by
  unfold Addr.add
  split <;> rfl

inductive PR (w : World) (S : Nat → Prop) : V → Value → Prop
  | undef : PR w S .undef Go.undef
  | bool (b : Bool) : PR w S (.bool b) (.bool b)
  | int (k : IntKind) (n : Int) : PR w S (.int k n) (.int k n)
  | str (s : ByteArray) : PR w S (.str s) (.string s)
  | nilp : PR w S .nilp (.pointer none)
  | nilf : PR w S .nilf .nilFunc
  | nili : PR w S .nili .nilIface
  | nils (A : Option Addr) : PR w S .nils (.slice A 0 0)
  | list {n c : Nat} {cs : List V} {A : Option Addr} (f : Nat → Value) (hd : cs = [] ∨ ∃ ad, A = some ad ∧ S ad.block ∧ ∀ k, k < cs.length → w.cell? (ad.add k) = some (f k)) (hn : n ≤ c) (hm : c ≤ maxLen)
      (h : ∀ k (hk : k < cs.length), PR w S cs[k] (f k)) (h1 : ∀ k, k < cs.length → (f k).oneCell' = true) : PR w S (.list n cs) (.slice A n c)
  | ref {cs : List V} {off : Nat} {ad : Addr} (f : Nat → Value) (hS : S ad.block) (hd : ∀ k, k < cs.length → w.cell? (ad.add k) = some (f k)) (h : ∀ k (hk : k < cs.length), PR w S cs[k] (f k)) (h1 : ∀ k, k < cs.length → (f k).oneCell' = true) :
      PR w S (.ref cs off) (.pointer (some (ad.add off)))
  | func {g : Fn} {fi ca : List V} {fx cx : Array Value} (h1 : fi.length = fx.size) (h2 : ca.length = cx.size) (hf : ∀ k (hk : k < fi.length), PR w S fi[k] (fx.getD k Go.undef)) (hc : ∀ k (hk : k < ca.length), PR w S ca[k] (cx.getD k Go.undef)) :
      PR w S (.func g fi ca) (.func g fx cx)
  | iface {t : TypeId} {v : V} {x : Value} (h : PR w S v x) : PR w S (.iface t v) (.iface t x)
  | agg {cs : List V} {arr : Array Value} (hl : cs.length = arr.size) (h : ∀ k (hk : k < cs.length), PR w S cs[k] (arr.getD k Go.undef)) (h1 : ∀ k, k < cs.length → (arr.getD k Go.undef).oneCell' = true) : PR w S (.agg cs) (.agg arr)
  | tup {cs : List V} {arr : Array Value} (hl : cs.length = arr.size) (h : ∀ k (hk : k < cs.length), PR w S cs[k] (arr.getD k Go.undef)) : PR w S (.tup cs) (.tuple arr)

theorem PR.mono {w w' : World} {S S' : Nat → Prop} (hS : ∀ b, S b → S' b) (hw : ∀ b, S b → w'.heap[b]? = w.heap[b]?) {v : V} {x : Value} (h : PR w S v x) : PR w' S' v x := by
  induction h with
  | undef => exact .undef
  | bool b => exact .bool b
  | int k n => exact .int k n
  | str s => exact .str s
  | nilp => exact .nilp
  | nilf => exact .nilf
  | nili => exact .nili
  | nils A => exact .nils A
  | list f hd hn hm h h1 ih =>
    refine .list f ?_ hn hm ih h1
    rcases hd with hd | ⟨ad, e, hs, hd⟩
    · exact .inl hd
    · refine .inr ⟨ad, e, hS _ hs, fun k hk => ?_⟩
      rw [← hd k hk]
      exact cell_of_heap (by rw [block_add]; exact hw _ hs)
  | ref f hs hd h h1 ih =>
    refine .ref f (hS _ hs) (fun k hk => ?_) ih h1
    rw [← hd k hk]
    exact cell_of_heap (by rw [block_add]; exact hw _ hs)
  | func h1 h2 hf hc ihf ihc => exact .func h1 h2 ihf ihc
  | iface h ih => exact .iface ih
  | agg hl h h1 ih => exact .agg hl ih h1
  | tup hl h ih => exact .tup hl ih

/-! ### Trees: values that own all that they lead to, but for leaves that are only read -/
def bsz (w : World) (b : Nat) : Nat := match w.heap[b]? with
  | some (.cells c _ _) => c.size
  | _ => 0

def unfz (arr : Array Value) (fr : Nat × Nat) : Prop := ∀ k, k < arr.size → ¬ (fr.1 ≤ k ∧ k < fr.2)

inductive TR (w : World) (S : Nat → Prop) : V → Value → List Nat → Prop
  | pr {v : V} {x : Value} (h : PR w S v x) : TR w S v x []
  | unil (sz : Nat) (A : Option Addr) : TR w S (.uniq sz 0 []) (.slice A 0 0) []
  | uniq {sz n c b : Nat} {cs : List V} {arr : Array Value} {e : TypeId} {fr : Nat × Nat} (fp : Nat → List Nat) (hb : w.heap[b]? = some (.cells arr e fr)) (hz : unfz arr fr) (hl : cs.length = n * sz) (hc : c * sz ≤ arr.size) (hn : n ≤ c) (hm : c ≤ maxLen) (hc1 : 1 ≤ c)
      (h : ∀ k (hk : k < cs.length), TR w S cs[k] (arr.getD k Go.undef) (fp k)) (h1 : ∀ k, k < cs.length → (arr.getD k Go.undef).oneCell' = true) : TR w S (.uniq sz n cs) (.slice (some ⟨b, 0, none⟩) n c) (b :: (List.range cs.length).flatMap fp)
  | uptr {b : Nat} {cs : List V} {arr : Array Value} {e : TypeId} {fr : Nat × Nat} (fp : Nat → List Nat) (hb : w.heap[b]? = some (.cells arr e fr)) (hz : unfz arr fr) (hl : cs.length ≤ arr.size)
      (h : ∀ k (hk : k < cs.length), TR w S cs[k] (arr.getD k Go.undef) (fp k)) (h1 : ∀ k, k < cs.length → (arr.getD k Go.undef).oneCell' = true) : TR w S (.uptr cs) (.pointer (some ⟨b, 0, none⟩)) (b :: (List.range cs.length).flatMap fp)
  | agg {cs : List V} {arr : Array Value} (fp : Nat → List Nat) (hl : cs.length = arr.size) (h : ∀ k (hk : k < cs.length), TR w S cs[k] (arr.getD k Go.undef) (fp k)) (h1 : ∀ k, k < cs.length → (arr.getD k Go.undef).oneCell' = true) : TR w S (.agg cs) (.agg arr) ((List.range cs.length).flatMap fp)
  | tup {cs : List V} {arr : Array Value} (fp : Nat → List Nat) (hl : cs.length = arr.size) (h : ∀ k (hk : k < cs.length), TR w S cs[k] (arr.getD k Go.undef) (fp k)) : TR w S (.tup cs) (.tuple arr) ((List.range cs.length).flatMap fp)

theorem TR.mono {w w' : World} {S S' : Nat → Prop} {v : V} {x : Value} {fp : List Nat} (h : TR w S v x fp) (hS : ∀ b, S b → S' b) (hwS : ∀ b, S b → w'.heap[b]? = w.heap[b]?) (hw : ∀ b, b ∈ fp → w'.heap[b]? = w.heap[b]?) : TR w' S' v x fp := by
  induction h with
  | pr h => exact .pr (h.mono hS hwS)
  | unil sz A => exact .unil sz A
  | uniq fp hb hz hl hc hn hm hc1 h h1 ih =>
    refine .uniq fp ((hw _ (List.mem_cons_self ..)).trans hb) hz hl hc hn hm hc1 (fun k hk => ih k hk fun b hb' => hw b (List.mem_cons_of_mem _ (mem_fm.2 ⟨k, hk, hb'⟩))) h1
  | uptr fp hb hz hl h h1 ih =>
    refine .uptr fp ((hw _ (List.mem_cons_self ..)).trans hb) hz hl (fun k hk => ih k hk fun b hb' => hw b (List.mem_cons_of_mem _ (mem_fm.2 ⟨k, hk, hb'⟩))) h1
  | agg fp hl h h1 ih => exact .agg fp hl (fun k hk => ih k hk fun b hb' => hw b (mem_fm.2 ⟨k, hk, hb'⟩)) h1
  | tup fp hl h ih => exact .tup fp hl fun k hk => ih k hk fun b hb' => hw b (mem_fm.2 ⟨k, hk, hb'⟩)

theorem TR.lt {w : World} {S : Nat → Prop} {v : V} {x : Value} {fp : List Nat} (h : TR w S v x fp) : ∀ b, b ∈ fp → b < w.heap.size := by
  induction h with
  | uniq fp hb hz hl hc hn hm hc1 h h1 ih =>
    intro b hb'
    rcases List.mem_cons.1 hb' with rfl | hb'
    · exact (Array.getElem?_eq_some_iff.1 hb).1
    · obtain ⟨k, hk, hk'⟩ := mem_fm.1 hb'; exact ih k hk b hk'
  | uptr fp hb hz hl h h1 ih =>
    intro b hb'
    rcases List.mem_cons.1 hb' with rfl | hb'
    · exact (Array.getElem?_eq_some_iff.1 hb).1
    · obtain ⟨k, hk, hk'⟩ := mem_fm.1 hb'; exact ih k hk b hk'
  | agg fp hl h h1 ih => intro b hb'; obtain ⟨k, hk, hk'⟩ := mem_fm.1 hb'; exact ih k hk b hk'
  | tup fp hl h ih => intro b hb'; obtain ⟨k, hk, hk'⟩ := mem_fm.1 hb'; exact ih k hk b hk'
  | _ => intro b hb'; cases hb'

/-! ### Values of a frame; J: the blocks of the frame's own objects -/
inductive VR (w : World) (S : Nat → Prop) (J : Nat → Option (Option Nat)) (H : Nat → Option Ob) : V → Value → Prop
  | any (x : Value) : VR w S J H .any x
  | pure {v : V} {x : Value} (h : PR w S v x) : VR w S J H v x
  | sl {id ver off len c : Nat} {A : Option Addr} (hj : J id ≠ none) (hlc : len ≤ c) (hcm : c ≤ maxLen) (hA : len = 0 ∨ ∃ a, A = some a) (h : ∀ ob, H id = some ob → ver ≤ ob.ver ∧ (ob.ver = ver → (c = 0 ∧ len = 0 ∧ (off = 0 → J id = some none)) ∨ 1 ≤ c ∧ ∃ b, J id = some (some b) ∧ A = some ⟨b, off, none⟩ ∧ off + c * ob.sz ≤ bsz w b)) :
      VR w S J H (.sl id ver off len) (.slice A len c)
  | ptr {id ver off : Nat} {a : Addr} (hj : J id ≠ none) (h : ∀ ob, H id = some ob → ver ≤ ob.ver ∧ (ob.ver = ver → ∃ b, J id = some (some b) ∧ a = ⟨b, off, none⟩)) : VR w S J H (.ptr id ver off) (.pointer (some a))
  | func {g : Fn} {fi ca : List V} {fx cx : Array Value} (h1 : fi.length = fx.size) (h2 : ca.length = cx.size) (hf : ∀ k (hk : k < fi.length), VR w S J H fi[k] (fx.getD k Go.undef)) (hc : ∀ k (hk : k < ca.length), VR w S J H ca[k] (cx.getD k Go.undef)) :
      VR w S J H (.func g fi ca) (.func g fx cx)
  | iface {t : TypeId} {v : V} {x : Value} (h : VR w S J H v x) : VR w S J H (.iface t v) (.iface t x)
  | agg {cs : List V} {arr : Array Value} (hl : cs.length = arr.size) (h : ∀ k (hk : k < cs.length), VR w S J H cs[k] (arr.getD k Go.undef)) (h1 : ∀ k, k < cs.length → (arr.getD k Go.undef).oneCell' = true) : VR w S J H (.agg cs) (.agg arr)
  | tup {cs : List V} {arr : Array Value} (hl : cs.length = arr.size) (h : ∀ k (hk : k < cs.length), VR w S J H cs[k] (arr.getD k Go.undef)) : VR w S J H (.tup cs) (.tuple arr)

/-- What has been said of values holds on. -/
structure Pers (w : World) (S : Nat → Prop) (J : Nat → Option (Option Nat)) (H : Nat → Option Ob) (w' : World) (S' : Nat → Prop) (J' : Nat → Option (Option Nat)) (H' : Nat → Option Ob) : Prop where
  hS : ∀ b, S b → S' b
  hw : ∀ b, S b → w'.heap[b]? = w.heap[b]?
  hJ : ∀ id, J id ≠ none → J' id ≠ none
  hH : ∀ id ob', J id ≠ none → H' id = some ob' → ∃ ob, H id = some ob ∧ (ob.ver < ob'.ver ∨ (ob.ver = ob'.ver ∧ ob.sz = ob'.sz ∧ J' id = J id ∧ ∀ b, J id = some (some b) → bsz w' b = bsz w b))

theorem Pers.refl (w : World) (S : Nat → Prop) (J : Nat → Option (Option Nat)) (H : Nat → Option Ob) : Pers w S J H w S J H :=
  ⟨fun _ h => h, fun _ _ => rfl, fun _ h => h, fun _ ob' _ h => ⟨ob', h, .inr ⟨rfl, rfl, rfl, fun _ _ => rfl⟩⟩⟩

theorem VR.mono {w w' : World} {S S' : Nat → Prop} {J J' : Nat → Option (Option Nat)} {H H' : Nat → Option Ob} (p : Pers w S J H w' S' J' H') {v : V} {x : Value} (h : VR w S J H v x) : VR w' S' J' H' v x := by
  induction h with
  | any x => exact .any x
  | pure h => exact .pure (h.mono p.hS p.hw)
  | sl hj hlc hcm hA h =>
    refine .sl (p.hJ _ hj) hlc hcm hA fun ob' hob' => ?_
    obtain ⟨ob, hob, hv⟩ := p.hH _ ob' hj hob'
    obtain ⟨hle, hc⟩ := h ob hob
    rcases hv with hv | ⟨hv, hsz, hjj, hbs⟩
    · exact ⟨by omega, fun e => by omega⟩
    · refine ⟨by omega, fun e => ?_⟩
      rcases hc (by omega) with hz | ⟨hc1, b, hb, hA, hfit⟩
      · exact .inl ⟨hz.1, hz.2.1, fun h0 => by rw [hjj]; exact hz.2.2 h0⟩
      · exact .inr ⟨hc1, b, by rw [hjj]; exact hb, hA, by rw [← hsz, hbs b hb]; exact hfit⟩
  | ptr hj h =>
    refine .ptr (p.hJ _ hj) fun ob' hob' => ?_
    obtain ⟨ob, hob, hv⟩ := p.hH _ ob' hj hob'
    obtain ⟨hle, hc⟩ := h ob hob
    rcases hv with hv | ⟨hv, hsz, hjj, hbs⟩
    · exact ⟨by omega, fun e => by omega⟩
    · refine ⟨by omega, fun e => ?_⟩
      obtain ⟨b, hb, hA⟩ := hc (by omega)
      exact ⟨b, by rw [hjj]; exact hb, hA⟩
  | func h1 h2 hf hc ihf ihc => exact .func h1 h2 ihf ihc
  | iface h ih => exact .iface ih
  | agg hl h h1 ih => exact .agg hl ih h1
  | tup hl h ih => exact .tup hl ih

/-- A cell of an object: a value, or a tree that the cell owns. -/
def CR (w : World) (S : Nat → Prop) (J : Nat → Option (Option Nat)) (H : Nat → Option Ob) (v : V) (x : Value) (fp : List Nat) : Prop :=
  (VR w S J H v x ∧ fp = []) ∨ TR w S v x fp

theorem CR.mono {w w' : World} {S S' : Nat → Prop} {J J' : Nat → Option (Option Nat)} {H H' : Nat → Option Ob} (p : Pers w S J H w' S' J' H') {v : V} {x : Value} {fp : List Nat} (h : CR w S J H v x fp)
    (hw : ∀ b, b ∈ fp → w'.heap[b]? = w.heap[b]?) : CR w' S' J' H' v x fp := by
  rcases h with ⟨h, e⟩ | h
  · exact .inl ⟨h.mono p, e⟩
  · exact .inr (h.mono p.hS p.hw hw)

/-- An object. -/
def OR (w : World) (S : Nat → Prop) (J : Nat → Option (Option Nat)) (H : Nat → Option Ob) (ob : Ob) (jo : Option Nat) (F : List Nat) : Prop :=
  match jo with
  | none => ob.cells = [] ∧ F = []
  | some b => ∃ (arr : Array Value) (e : TypeId) (fr : Nat × Nat) (fp : Nat → List Nat), w.heap[b]? = some (.cells arr e fr) ∧ unfz arr fr ∧ ob.cells.length ≤ arr.size ∧
      (∀ k (hk : k < ob.cells.length), CR w S J H ob.cells[k] (arr.getD k Go.undef) (fp k)) ∧ (∀ k, k < ob.cells.length → (arr.getD k Go.undef).oneCell' = true) ∧ F = b :: (List.range ob.cells.length).flatMap fp

theorem OR.mono {w w' : World} {S S' : Nat → Prop} {J J' : Nat → Option (Option Nat)} {H H' : Nat → Option Ob} (p : Pers w S J H w' S' J' H') {ob : Ob} {jo : Option Nat} {F : List Nat} (h : OR w S J H ob jo F)
    (hw : ∀ b, b ∈ F → w'.heap[b]? = w.heap[b]?) : OR w' S' J' H' ob jo F := by
  cases jo with
  | none => exact h
  | some b =>
    obtain ⟨arr, e, fr, fp, hb, hz, hl, hc, h1, rfl⟩ := h
    exact ⟨arr, e, fr, fp, (hw b (List.mem_cons_self ..)).trans hb, hz, hl, fun k hk => (hc k hk).mono p fun x hx => hw x (List.mem_cons_of_mem _ (mem_fm.2 ⟨k, hk, hx⟩)), h1, rfl⟩

/-! ### A frame's state -/
structure Gh where
  J : Nat → Option (Option Nat)
  S : Nat → Prop
  F : Nat → List Nat

/-- What was there when the call began: the world, the blocks that nothing writes, those that were handed over. -/
structure Beg where
  w : World
  S : Nat → Prop
  fp : List Nat
  nt : Nat
  strict : Bool
  keep : List (V × Value)

/-- The memory of a frame. -/
structure MR (B : Beg) (H : Nat → Option Ob) (w : World) (g : Gh) : Prop where
  hj : ∀ id ob, H id = some ob → g.J id ≠ none
  ob : ∀ id ob jo, H id = some ob → g.J id = some jo → OR w g.S g.J H ob jo (g.F id)
  nd : ∀ id ob, H id = some ob → (g.F id).Nodup
  dj : ∀ id id' ob ob', id ≠ id' → H id = some ob → H id' = some ob' → ∀ b, b ∈ g.F id → b ∉ g.F id'
  mu : ∀ id ob b, H id = some ob → 1 ≤ ob.lv → g.J id = some (some b) → ¬ g.S b
  ms : B.strict = true → ∀ id ob, H id = some ob → 1 ≤ ob.lv → ∀ b, b ∈ g.F id → ¬ g.S b
  new : ∀ id ob, H id = some ob → ∀ b, b ∈ g.F id → b ∈ B.fp ∨ B.w.heap.size ≤ b
  lt : ∀ b, g.S b → b < w.heap.size
  s0 : ∀ b, B.S b → g.S b
  s1 : ∀ b, g.S b → B.S b ∨ B.w.heap.size ≤ b ∨ b ∈ B.fp
  os : w.os = B.w.os
  tape : w.tape = B.w.tape
  output : w.output = B.w.output
  size : B.w.heap.size ≤ w.heap.size
  fm : ∀ b, b < B.w.heap.size → b ∉ B.fp → w.heap[b]? = B.w.heap[b]?
  bs : ∀ b, b < B.w.heap.size → bsz w b = bsz B.w b

structure SR (B : Beg) (fr : Nat → V) (H : Nat → Option Ob) (hi : Nat → Prop) (a : Act) (w : World) (g : Gh) : Prop where
  df : a.defers = []
  sz : a.tmps.size = B.nt
  sl : ∀ t, VR w g.S g.J H (fr t) (a.tmps.getD t Go.undef)
  ids : ∀ id, g.J id ≠ none → hi id
  m : MR B H w g
  kp : ∀ p, p ∈ B.keep → VR w g.S g.J H p.1 p.2

theorem OR.lt {w : World} {S : Nat → Prop} {J : Nat → Option (Option Nat)} {H : Nat → Option Ob} {ob : Ob} {jo : Option Nat} {F : List Nat} (h : OR w S J H ob jo F) : ∀ b, b ∈ F → b < w.heap.size := by
  intro x hx
  cases jo with
  | none => rw [h.2] at hx; cases hx
  | some b =>
    obtain ⟨arr, e, fr, fp, hb, hz, hl, hc, h1, rfl⟩ := h
    rcases List.mem_cons.1 hx with rfl | hx
    · exact (Array.getElem?_eq_some_iff.1 hb).1
    · obtain ⟨k, hk, hk'⟩ := mem_fm.1 hx
      rcases hc k hk with ⟨_, e⟩ | h
      · rw [e] at hk'; cases hk'
      · exact h.lt x hk'

theorem MR.flt {B : Beg} {H : Nat → Option Ob} {w : World} {g : Gh} (h : MR B H w g) {id : Nat} {ob : Ob} (e : H id = some ob) : ∀ b, b ∈ g.F id → b < w.heap.size := by
  cases hj : g.J id with
  | none => exact absurd hj (h.hj id ob e)
  | some jo => exact (h.ob id ob jo e hj).lt

theorem MR.own {B : Beg} {H : Nat → Option Ob} {w : World} {g : Gh} (h : MR B H w g) {id b : Nat} {ob : Ob} (e : H id = some ob) (hj : g.J id = some (some b)) : b ∈ g.F id := by
  obtain ⟨arr, e', fr, fp, hb, hz, hl, hc, h1, hF⟩ := h.ob id ob _ e hj
  rw [hF]
  exact List.mem_cons_self ..

/-- What changes from one state of the memory to the next: 'C' holds of the objects that are not as they were. -/
structure Chg (B : Beg) (H : Nat → Option Ob) (w : World) (g : Gh) (C : Nat → Prop) (H' : Nat → Option Ob) (w' : World) (g' : Gh) : Prop where
  same : ∀ id, ¬ C id → H' id = H id ∧ g'.J id = g.J id ∧ g'.F id = g.F id
  os : w'.os = w.os
  tape : w'.tape = w.tape
  output : w'.output = w.output
  size : w.heap.size ≤ w'.heap.size
  bs : ∀ b, b < w.heap.size → bsz w' b = bsz w b
  blk : ∀ b, b < w.heap.size → w'.heap[b]? = w.heap[b]? ∨ ∃ id ob, C id ∧ H id = some ob ∧ b ∈ g.F id ∧ ¬ g.S b
  hS : ∀ b, g.S b → g'.S b
  hlt : ∀ b, g'.S b → b < w'.heap.size
  hs1 : ∀ b, g'.S b → B.S b ∨ B.w.heap.size ≤ b ∨ b ∈ B.fp
  hJ : ∀ id, C id → g.J id ≠ none → g'.J id ≠ none
  pers : ∀ id ob', C id → g.J id ≠ none → H' id = some ob' → ∃ ob, H id = some ob ∧ (ob.ver < ob'.ver ∨ (ob.ver = ob'.ver ∧ ob.sz = ob'.sz ∧ g'.J id = g.J id))
  mu : ∀ id ob b, ¬ C id → H id = some ob → 1 ≤ ob.lv → g.J id = some (some b) → ¬ g'.S b
  ms : B.strict = true → ∀ id ob, ¬ C id → H id = some ob → 1 ≤ ob.lv → ∀ b, b ∈ g.F id → ¬ g'.S b

section
variable {B : Beg} {H H' : Nat → Option Ob} {w w' : World} {g g' : Gh} {C : Nat → Prop}

theorem Chg.kept (c : Chg B H w g C H' w' g') (m : MR B H w g) {id : Nat} {ob : Ob} (hn : ¬ C id) (e : H id = some ob) : ∀ b, b ∈ g.F id → w'.heap[b]? = w.heap[b]? := by
  intro b hb
  rcases c.blk b (m.flt e b hb) with h | ⟨id', ob', hc, he, hl, hj⟩
  · exact h
  · exact absurd hb (m.dj id' id ob' ob (fun e' => hn (e' ▸ hc)) he e b hl)

theorem Chg.toPers (c : Chg B H w g C H' w' g') (m : MR B H w g) : Pers w g.S g.J H w' g'.S g'.J H' where
  hS := c.hS
  hw := fun b hb => by
    rcases c.blk b (m.lt b hb) with h | ⟨id', ob', hc, he, hl, hj⟩
    · exact h
    · exact absurd hb hj
  hJ := fun id hid => by
    by_cases hc : C id
    · exact c.hJ id hc hid
    · rw [(c.same id hc).2.1]; exact hid
  hH := fun id ob' hid he => by
    by_cases hc : C id
    · obtain ⟨ob, h1, h2⟩ := c.pers id ob' hc hid he
      refine ⟨ob, h1, h2.imp (fun h => h) fun h => ⟨h.1, h.2.1, h.2.2, fun b hb => c.bs b (m.flt h1 b (m.own h1 hb))⟩⟩
    · obtain ⟨h1, h2, h3⟩ := c.same id hc
      rw [h1] at he
      refine ⟨ob', he, .inr ⟨rfl, rfl, h2, fun b hb => ?_⟩⟩
      have := c.kept m hc he b (m.own he hb)
      simp only [bsz, this]

/-- The next state of the memory. -/
theorem Chg.next (c : Chg B H w g C H' w' g') (m : MR B H w g)
    (obj : ∀ id ob', C id → H' id = some ob' → ∃ jo, g'.J id = some jo ∧ OR w' g'.S g'.J H' ob' jo (g'.F id) ∧ (g'.F id).Nodup ∧
      (1 ≤ ob'.lv → (∀ b, jo = some b → ¬ g'.S b) ∧ (B.strict = true → ∀ b, b ∈ g'.F id → ¬ g'.S b)) ∧ (∀ b, b ∈ g'.F id → b ∈ B.fp ∨ B.w.heap.size ≤ b) ∧
      (∀ id2 ob2, id2 ≠ id → H' id2 = some ob2 → ∀ b, b ∈ g'.F id → b ∉ g'.F id2)) : MR B H' w' g' := by
  have p := c.toPers m
  have hsame := c.same
  constructor
  · intro id ob e
    by_cases hc : C id
    · obtain ⟨jo, hj, _⟩ := obj id ob hc e
      rw [hj]; simp
    · obtain ⟨h1, h2, _⟩ := hsame id hc
      rw [h2]; rw [h1] at e; exact m.hj id ob e
  · intro id ob jo e hj
    by_cases hc : C id
    · obtain ⟨jo', hj', hO, _⟩ := obj id ob hc e
      rw [hj'] at hj
      injection hj with hj
      rw [← hj]; exact hO
    · obtain ⟨h1, h2, h3⟩ := hsame id hc
      rw [h1] at e; rw [h2] at hj; rw [h3]
      exact (m.ob id ob jo e hj).mono p (c.kept m hc e)
  · intro id ob e
    by_cases hc : C id
    · obtain ⟨_, _, _, hn, _⟩ := obj id ob hc e; exact hn
    · obtain ⟨h1, _, h3⟩ := hsame id hc
      rw [h1] at e; rw [h3]; exact m.nd id ob e
  · intro id id' ob ob' hne e e' b hb hb'
    by_cases hc : C id
    · obtain ⟨_, _, _, _, _, _, hd⟩ := obj id ob hc e
      exact hd id' ob' (Ne.symm hne) e' b hb hb'
    · by_cases hc' : C id'
      · obtain ⟨_, _, _, _, _, _, hd⟩ := obj id' ob' hc' e'
        exact hd id ob hne e b hb' hb
      · obtain ⟨h1, _, h3⟩ := hsame id hc
        obtain ⟨h1', _, h3'⟩ := hsame id' hc'
        rw [h1] at e; rw [h3] at hb; rw [h1'] at e'; rw [h3'] at hb'
        exact m.dj id id' ob ob' hne e e' b hb hb'
  · intro id ob b e hl hj
    by_cases hc : C id
    · obtain ⟨jo, hj', _, _, hm, _⟩ := obj id ob hc e
      rw [hj'] at hj
      injection hj with hj
      exact (hm hl).1 b hj
    · obtain ⟨h1, h2, _⟩ := hsame id hc
      rw [h1] at e; rw [h2] at hj
      exact c.mu id ob b hc e hl hj
  · intro hs id ob e hl b hb
    by_cases hc : C id
    · obtain ⟨_, _, _, _, hm, _⟩ := obj id ob hc e
      exact (hm hl).2 hs b hb
    · obtain ⟨h1, _, h3⟩ := hsame id hc
      rw [h1] at e; rw [h3] at hb
      exact c.ms hs id ob hc e hl b hb
  · intro id ob e b hb
    by_cases hc : C id
    · obtain ⟨_, _, _, _, _, hn, _⟩ := obj id ob hc e; exact hn b hb
    · obtain ⟨h1, _, h3⟩ := hsame id hc
      rw [h1] at e; rw [h3] at hb; exact m.new id ob e b hb
  · exact c.hlt
  · exact fun b hb => c.hS b (m.s0 b hb)
  · exact c.hs1
  · exact c.os.trans m.os
  · exact c.tape.trans m.tape
  · exact c.output.trans m.output
  · exact Nat.le_trans m.size c.size
  · intro b hb hf
    rcases c.blk b (Nat.lt_of_lt_of_le hb m.size) with h | ⟨id, ob, hc, e, hl, hj⟩
    · rw [h]; exact m.fm b hb hf
    · rcases m.new id ob e b hl with h | h
      · exact absurd h hf
      · omega
  · exact fun b hb => (c.bs b (Nat.lt_of_lt_of_le hb m.size)).trans (m.bs b hb)
end

end Go.Proofs.Ytclebbjpacpbmaa.Ev
