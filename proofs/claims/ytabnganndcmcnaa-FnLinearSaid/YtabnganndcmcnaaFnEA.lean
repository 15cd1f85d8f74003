/- A range over a function: (impl.field).value, by the kit's law of such a range; what it comes to as a call. Conditions: none. -/
import Derived.RangeFuncBox
import Derived.RangeFuncLeaves
import Derived.RangeFuncWrites
import Derived.RangeFuncNested
import Derived.Shelf.Abstract
import Derived.WalkKit
import Derived.OwnWalkIn
import Derived.TacticsInMore
import Derived.LoopNIn
import Derived.LoopIn
import Derived.Test.YtabnganndcmcnaaProg
import Derived.Test.YtabnganndcmcnaaEvW
namespace Go.Proofs.Ytabnganndcmcnaa.Rf
open Go Go.Proofs Go.RowKit Go.Shelf

attribute [local go_sem] Oper.semAt_some

theorem tmod_add {p x : Int} (hp : 0 < p) : (x.tmod p + p).tmod p = x % p := by
  have h1 : 0 ≤ x.tmod p + p := by
    have := Int.lt_tmod_of_pos x hp
    omega
  rw [Int.tmod_eq_emod_of_nonneg h1, Int.add_emod_right]
  have := Int.mul_tdiv_add_tmod x p
  conv => rhs; rw [← this]
  rw [Int.mul_add_emod_self_left]
theorem w64 {n : Int} (h : -9223372036854775808 ≤ n ∧ n ≤ 9223372036854775807) : wrap64 n = n := by unfold wrap64; omega
set_option maxRecDepth 100000 in
set_option maxHeartbeats 2000000 in
theorem mod_in (F : Fence) (n : Nat) (h : F.fn 144) (hro : F.round = none) (p x : Int) (hp : 2 ≤ p ∧ p ≤ 10007) (w : World) :
    CallsIn F n Try.prog 144 #[.int .i64 p, .int .i64 x] w fun e w' => e = .returned (.int .i64 (x % p)) ∧ w' = w := by
  refine callsIn_of_wp Try.func144 rfl h ?_ hro
  simp only [Try.ntmps144, List.size_toArray, List.length_cons, List.length_nil, Nat.reduceAdd, Nat.reduceSub, Array.replicate_succ, Array.replicate_zero, List.push_toArray, List.append_toArray, List.nil_append, List.cons_append]
  gi_wp2
  go_ret
  have h1 := Int.tmod_lt_of_pos x (show 0 < p by omega)
  have h2 := Int.lt_tmod_of_pos x (show 0 < p by omega)
  refine ⟨?_, rfl⟩
  rw [w64 (by omega), tmod_add (by omega)]
  rfl

/-- What has come when k rounds are over. -/
def upto {α : Type} (f : Nat → α) (k : Nat) : List α := (List.range k).map f
theorem upto_succ {α : Type} (f : Nat → α) (k : Nat) : upto f (k + 1) = upto f k ++ [f k] := by simp [upto, List.range_succ]
theorem upto_length {α : Type} (f : Nat → α) (k : Nat) : (upto f k).length = k := by simp [upto]
/-- What the round number k is handed: the index, the number there. -/
def bk (zs : List Int) (len : Nat) (k : Nat) : Int × Int := ((len : Int) - 1 - k, zs[len - 1 - k]?.getD 0)

/-- What a round keeps: whatever lay below n₀, and the box of the slice. -/
def Kq (n₀ Bs : Nat) (W W' : World) : Prop := Below n₀ W W' ∧ W'.heap[Bs]? = W.heap[Bs]?
theorem Kq.refl (n₀ Bs : Nat) (W : World) : Kq n₀ Bs W W := ⟨Below.refl _ _, rfl⟩
theorem Kq.trans {n₀ Bs : Nat} {A B C : World} (h : Kq n₀ Bs A B) (k : Kq n₀ Bs B C) : Kq n₀ Bs A C := ⟨h.1.trans k.1, k.2.trans h.2⟩

set_option maxRecDepth 100000 in
set_option maxHeartbeats 2000000 in
theorem back1_in (F : Fence) (n : Nat) (h7 : F.fn 266) (hro : F.round = none) (hn : 1 ≤ n) (l Bs n₀ b off len cap : Nat) (zs : List Int) (hreach : len ≤ 1048576) (hcap : len ≤ cap) (hb : b < n₀) (J Jx : List (Int × Int) → World → Prop)
    (hY : ∀ pre x W, J pre W → pre.length < len → YieldAt F (n - 1) Try.prog l #[.int .i64 x.1, .int .i64 x.2] W fun e W' =>
      (e = .returned (.bool true) ∧ J (pre ++ [x]) W' ∧ Kq n₀ Bs W W') ∨ (e = .returned (.bool false) ∧ Jx (pre ++ [x]) W'))
    (W : World) (hBs : W.cell? ⟨Bs, 0, none⟩ = some (.slice (some ⟨b, off, none⟩) len cap)) (hc : ∀ j, j < len → W.cell? ⟨b, off + j, none⟩ = some (.int .i64 (zs[j]?.getD 0))) (h0 : J [] W) :
    CallsIn F n Try.prog 266 #[.func (.yield l) #[] #[], .pointer (some ⟨Bs, 0, none⟩)] W fun e W' => (∃ v, e = .returned v) ∧
      ((∃ ys, ys = upto (bk zs len) len ∧ J ys W') ∨ (∃ pre, (∃ k, k ≤ len ∧ pre = upto (bk zs len) k) ∧ Jx pre W')) := by
  refine callsIn_of_wp Try.func266 rfl h7 ?_ hro
  simp only [Try.ntmps266, List.size_toArray, List.length_cons, List.length_nil, Nat.reduceAdd, Nat.reduceSub, Array.replicate_succ, Array.replicate_zero, List.push_toArray, List.append_toArray, List.nil_append, List.cons_append]
  gi_wp2
  gi_loopw [3] (fun i wr => ∃ m k : Nat, m + k = len ∧ i = .int .i64 ((m : Int) - 1) ∧ J (upto (bk zs len) k) wr ∧ Kq n₀ Bs W wr)
    (fun i _ => (intOf i + 1).toNat)
  case atStart => exact ⟨len, 0, by omega, rfl, h0, Kq.refl _ _ _⟩
  case round =>
    obtain ⟨m, k, hk, rfl, hJs, hnx⟩ := hrel
    rcases m with _ | m
    · obtain rfl : k = len := by omega
      gi_wp2
      go_end0
      exact ⟨⟨_, rfl⟩, .inl ⟨_, rfl, hJs⟩⟩
    · obtain ⟨fn, tmps, assign, body, hy, hR⟩ := hY _ (bk zs len k) wr hJs (by rw [upto_length]; omega)
      have e1 : (bk zs len k).1 = (m : Int) := by unfold bk; simp only; omega
      have e2 : (bk zs len k).2 = zs[m]?.getD 0 := by unfold bk; simp only; rw [show len - 1 - k = m by omega]
      rw [e1, e2] at hy
      have hcx : wr.cell? ⟨b, off + m, none⟩ = some (.int .i64 (zs[m]?.getD 0)) := (hnx.1.cell (p := ⟨b, off + m, none⟩) hb).trans (hc m (by omega))
      have hBx : wr.cell? ⟨Bs, 0, none⟩ = some (.slice (some ⟨b, off, none⟩) len cap) := (World.cell?_of_block (w := W) (a := ⟨Bs, 0, none⟩) hnx.2).trans hBs
      have e3 : ((m + 1 : Nat) : Int) - 1 = (m : Int) := by omega
      have hlt : m < len := by omega
      rw [e3]
      gi_wp2
      refine hR.mono ?_
      rintro e W3 (⟨rfl, hJ3, hk3⟩ | ⟨rfl, hJx3⟩)
      · gi_wp2
        go_roundw
        case rel => exact ⟨m, k + 1, by omega, by simp, by rw [upto_succ]; exact hJ3, hnx.trans hk3⟩
        case measure => simp [intOf]
      · gi_wp2
        refine bodyPost_ret (results_none rfl _ _ _) rfl ?_
        exact ⟨⟨_, rfl⟩, .inr ⟨_, ⟨k + 1, by omega, (upto_succ _ _).symm⟩, hJx3⟩⟩
/-- The slice value sv holds the ints zs, in a block below n₀; or there are none. -/
def Ints (n₀ : Nat) (W : World) (sv : Value) (zs : List Int) : Prop :=
  (∃ a cap, sv = .slice a 0 cap ∧ zs = []) ∨ ∃ b off cap, sv = .slice (some ⟨b, off, none⟩) zs.length cap ∧ zs.length ≤ cap ∧ b < n₀ ∧ ∀ j, j < zs.length → W.cell? ⟨b, off + j, none⟩ = some (.int .i64 (zs[j]?.getD 0))
theorem Ints.below {n₀ : Nat} {A B : World} (h : Below n₀ A B) {sv : Value} {zs : List Int} : Ints n₀ A sv zs → Ints n₀ B sv zs
  | .inl e => .inl e
  | .inr ⟨b, off, cap, e, hl, hb, hc⟩ => .inr ⟨b, off, cap, e, hl, hb, fun j hj => (h.cell (p := ⟨b, off + j, none⟩) hb).trans (hc j hj)⟩

set_option maxRecDepth 100000 in
set_option maxHeartbeats 1000000 in
theorem back1_nil_in (F : Fence) (n : Nat) (h7 : F.fn 266) (hro : F.round = none) (l Bs cap : Nat) (a : Option Addr) (J : List (Int × Int) → World → Prop) (W : World) (hBs : W.cell? ⟨Bs, 0, none⟩ = some (.slice a 0 cap)) (h0 : J [] W) :
    CallsIn F n Try.prog 266 #[.func (.yield l) #[] #[], .pointer (some ⟨Bs, 0, none⟩)] W fun e W' => (∃ v, e = .returned v) ∧ J [] W' := by
  refine callsIn_of_wp Try.func266 rfl h7 ?_ hro
  simp only [Try.ntmps266, List.size_toArray, List.length_cons, List.length_nil, Nat.reduceAdd, Nat.reduceSub, Array.replicate_succ, Array.replicate_zero, List.push_toArray, List.append_toArray, List.nil_append, List.cons_append]
  gi_wp2
  gi_loopw [3] (fun i wr => i = .int .i64 (-1) ∧ J [] wr) (fun _ _ => 0)
  case atStart => exact ⟨by simp, h0⟩
  case round =>
    obtain ⟨rfl, hJs⟩ := hrel
    gi_wp2
    go_end0
    exact ⟨⟨_, rfl⟩, hJs⟩

set_option maxHeartbeats 1000000 in
theorem back_in (F : Fence) (n : Nat) (h5 : F.fn 253) (hro : F.round = none) (a : Option Addr) (len cap : Nat) (w : World) :
    CallsIn F n Try.prog 253 #[.slice a len cap] w fun e w' => e = .returned (.func (.func 266) #[] #[.pointer (some ⟨w.heap.size, 0, none⟩)]) ∧ w' = w.alloc (.cells #[.slice a len cap] 27) := by
  refine callsIn_of_wp Try.func253 rfl h5 ?_ hro
  simp only [Try.ntmps253, List.size_toArray, List.length_cons, List.length_nil, Nat.reduceAdd, Nat.reduceSub, Array.replicate_succ, Array.replicate_zero, List.push_toArray, List.append_toArray, List.nil_append, List.cons_append]
  gi_wp2
  go_ret
  exact ⟨rfl, rfl⟩

theorem back_stops (F : Fence) (n : Nat) (h7 : F.fn 266) (hro : F.round = none) (hn : 1 ≤ n) (Bs n₀ : Nat) (sv : Value) (zs : List Int) (hreach : zs.length ≤ 1048576) (w : World) (hBs : Bs < w.heap.size) (hn₀ : n₀ ≤ w.heap.size)
    (hc : w.cell? ⟨Bs, 0, none⟩ = some sv) (hI : Ints n₀ w sv zs) :
    SeqStopsK F n Try.prog 266 #[.pointer (some ⟨Bs, 0, none⟩)] (fun x : Int × Int => #[Value.int .i64 x.1, Value.int .i64 x.2]) (Kq n₀ Bs) (fun ys => ys = upto (bk zs zs.length) zs.length)
      (fun pre => ∃ k, k ≤ zs.length ∧ pre = upto (bk zs zs.length) k) zs.length w := fun l J Jx W hW _ _ hY h0 => by
  have hc' := (hW.cell (p := ⟨Bs, 0, none⟩) hBs).trans hc
  rcases hI.below (hW.mono hn₀) with ⟨a, cap, rfl, rfl⟩ | ⟨b, off, cap, rfl, hl, hb, hcs⟩
  · exact (back1_nil_in F n h7 hro l Bs cap a J W hc' h0).mono fun e W' ⟨he, hj⟩ => ⟨he, .inl ⟨_, rfl, hj⟩⟩
  · exact back1_in F n h7 hro hn l Bs n₀ b off zs.length cap zs hreach hl hb J Jx hY W hc' hcs h0

theorem Kq.put {n₀ Bs m : Nat} {W : World} {l : Nat} {o o' : Obj} (h1 : n₀ ≤ m) (h2 : Bs < m) (hl : m ≤ l) (h : W.heap[l]? = some o) (_ : o.isCells = false) : Kq n₀ Bs W (W.putObj l o') :=
  ⟨(Below.refl n₀ W).grown (grownBy_putObj' W l o') (by have := (Array.getElem?_eq_some_iff.1 h).1; omega) (fun k e => by cases e; omega), World.putObj_heap_other (by omega)⟩
theorem boxed_keeps {W W' : World} {row : Option Nat} {B : Nat} {t : TypeId} {v : Value} (h : Boxed W B t v) (hg : W.grownBy W' row) (hr : ∀ r, row = some r → ∃ o : Obj, W.heap[r]? = some o ∧ o.isCells = false) : Boxed W' B t v :=
  h.kept hg fun e => by
    obtain ⟨o, ho, hc⟩ := hr _ e.symm
    rw [show W.heap[B]? = _ from h] at ho
    cases ho; cases hc
/-- The value of a polynomial at a number: what has come, from behind. -/
def valR (p x : Int) : List (Int × Int) → Int := List.foldl (fun s v => wrap64 (wrap64 (s * x) + v.2) % p) 0
theorem valR_snoc (p x : Int) (pre : List (Int × Int)) (y : Int × Int) : valR p x (pre ++ [y]) = wrap64 (wrap64 (valR p x pre * x) + y.2) % p := by simp [valR]

set_option maxRecDepth 100000 in
set_option maxHeartbeats 2000000 in
theorem value_in (F : Fence) (n : Nat) (h3 : F.fn 192) (h5 : F.fn 253) (h7 : F.fn 266) (hm : F.fn 144) (hro : F.round = none) (hn : 3 ≤ n) (p x : Int) (hp : 2 ≤ p ∧ p ≤ 10007) (a : Option Addr) (len cap : Nat) (zs : List Int) (hreach : zs.length ≤ 1048576) (w : World) (hI : Ints w.heap.size w (.slice a len cap) zs) :
    CallsIn F n Try.prog 192 #[.int .i64 p, .slice a len cap, .int .i64 x] w fun e W' => e = .returned (.int .i64 (valR p x (upto (bk zs zs.length) zs.length))) ∧ Below w.heap.size w W' := by
  have h1 : 1 ≤ n := by omega
  have hp0 : ¬ p = 0 := by omega
  refine callsIn_of_wp_marks Try.func192 rfl h3 ?_ hro
  simp only [Try.ntmps192, List.size_toArray, List.length_cons, List.length_nil, Nat.reduceAdd, Nat.reduceSub, Array.replicate_succ, Array.replicate_zero, List.push_toArray, List.append_toArray, List.nil_append, List.cons_append]
  gi_wp2_with (gi_at_call 253; refine (back_in F (n - 1) h5 hro _ _ _ _).mono ?_; rintro e w' ⟨rfl, rfl⟩)
  have b0 := Boxed.new w 128 (.int .i64 p)
  have b1 := Boxed.new (w.alloc (.cells #[.int .i64 p] 128)) 2 (.int .i64 x)
  have b2 := Boxed.new ((w.alloc (.cells #[.int .i64 p] 128)).alloc (.cells #[.int .i64 x] 2)) 2 (.int .i64 0)
  have b3 := Boxed.new (((w.alloc (.cells #[.int .i64 p] 128)).alloc (.cells #[.int .i64 x] 2)).alloc (.cells #[.int .i64 0] 2)) 27 (.slice a len cap)
  have b0 := ((b0.alloc (.cells #[.int .i64 x] 2)).alloc (.cells #[.int .i64 0] 2)).alloc (.cells #[.slice a len cap] 27)
  have b1 := (b1.alloc (.cells #[.int .i64 0] 2)).alloc (.cells #[.slice a len cap] 27)
  have b2 := b2.alloc (.cells #[.slice a len cap] 27)
  have hB0 := ((((Below.refl w.heap.size w).alloc (Nat.le_refl _) (.cells #[.int .i64 p] 128)).alloc (by simp) (.cells #[.int .i64 x] 2)).alloc (by simp; omega) (.cells #[.int .i64 0] 2)).alloc (by simp; omega) (.cells #[.slice a len cap] 27)
  have hsz : ((((w.alloc (.cells #[.int .i64 p] 128)).alloc (.cells #[.int .i64 x] 2)).alloc (.cells #[.int .i64 0] 2)).alloc (.cells #[.slice a len cap] 27)).heap.size = w.heap.size + 4 := by simp
  simp only [World.size_alloc] at b1 b2 b3
  generalize ((((w.alloc (.cells #[.int .i64 p] 128)).alloc (.cells #[.int .i64 x] 2)).alloc (.cells #[.int .i64 0] 2)).alloc (.cells #[.slice a len cap] 27)) = W4 at *
  refine wpIn_rangeFunc_ownG hro h1 (gf := 266) (lb := #[.pointer (some ⟨w.heap.size + 1 + 1 + 1, 0, none⟩)]) rfl h7 (enters_of Try.func266 (by kernel_rfl) rfl)
    (back_stops F (n - 1) h7 hro (by omega) (w.heap.size + 1 + 1 + 1) w.heap.size _ zs hreach W4 (by omega) (by omega) b3.cell (hI.below hB0)) Kq.trans (fun W l o o' hl h hc hw => Kq.put (by omega) (by omega) hl h hc) (Below.refl _ _) (fun _ => rfl)
    (fun pre W => (Boxed W w.heap.size 128 (.int .i64 p) ∧ Boxed W (w.heap.size + 1) 2 (.int .i64 x) ∧ Boxed W (w.heap.size + 1 + 1) 2 (.int .i64 (valR p x pre))) ∧ Below w.heap.size w W)
    (fun _ _ _ => False)
    (OwnFrom.and (Own.from (fun s A B row hs hg hr => ⟨boxed_keeps hs.1 hg hr, boxed_keeps hs.2.1 hg hr, boxed_keeps hs.2.2 hg hr⟩) _) (ownFrom_below (Nat.le_refl _) (by omega)))
    (fun _ _ _ _ _ hs _ _ => hs)
    ⟨⟨b0, b1, b2⟩, hB0⟩
    (fun y => { tmps := #[.int .i64 p, .slice a len cap, .int .i64 x, .pointer (some ⟨w.heap.size, 0, none⟩), undef, .pointer (some ⟨w.heap.size + 1, 0, none⟩), .int .i64 0, .pointer (some ⟨w.heap.size + 1 + 1, 0, none⟩), undef, .int .i64 y.2, .slice a len cap, .func (.func 266) #[] #[.pointer (some ⟨w.heap.size + 1 + 1 + 1, 0, none⟩)], .int .i64 y.1, .int .i64 y.2, undef, undef, undef, undef, undef, undef, undef, undef], defers := [] }) ?assign ?body ?done ?stop
  case assign =>
    intro l y W K hK
    gi_wp2
    exact hK
  case body =>
    rintro l pre y W ⟨⟨c0, c1, c2⟩, hB⟩ _
    have k0 := c0.cell
    have k1 := c1.cell
    have k2 := c2.cell
    have f2 := c2.frozen
    have h9 : 1 ≤ n - 1 - 1 := by omega
    gi_wp2_with (gi_at_call 144; refine (CallsIn.inRound l (mod_in F _ hm hro p _ hp _)).mono ?_; rintro e w' ⟨rfl, rfl⟩)
    refine ⟨(KeepsOthers.setCell _ _ _).from _, ⟨(Below.refl w.heap.size _).setCell (p := ⟨w.heap.size + 1 + 1, 0, none⟩) (by simp only; omega) _, Below.heap_setCell _ _ _ _ (by simp only; omega)⟩, ⟨c0.other (by omega) _, c1.other (by omega) _, ?_⟩, hB.setCell (p := ⟨w.heap.size + 1 + 1, 0, none⟩) (by simp only; omega) _⟩
    rw [valR_snoc]
    exact c2.set _
  case done =>
    rintro D ys W hD rfl ⟨⟨_, _, c2⟩, hB⟩ hK
    have k2 := c2.cell
    gi_wp2
    refine ⟨by simp, .inl ⟨_, _, rfl, run_takeDeferred hK, ?_⟩⟩
    exact ⟨_, results_tmp rfl _ _ _, rfl, hB.trans (belowK_b (w := w) (Nat.le_refl _) W D _ _ (by omega) hK rfl rfl)⟩
  case stop =>
    rintro D c pre W _ _ h _
    exact h.elim
theorem enters_val : ∀ args w, (callFunc 192 args).run Try.prog w = .ok (.enter 192 args) w := enters_of Try.func192 (by kernel_rfl) rfl
end Go.Proofs.Ytabnganndcmcnaa.Rf

namespace Go.Proofs.Ytabnganndcmcnaa.Ev
open Go Go.Proofs Go.RowKit

/-- The value of a polynomial at a number, as (impl.field).value comes to it. -/
def valV (p x : Int) (zs : List Int) : Int := Rf.valR p x (Rf.upto (Rf.bk zs zs.length) zs.length)
theorem pr_int {w : World} {S : Nat → Prop} {k : IntKind} {n : Int} {z : Value} {fp : List Nat} (h : TR w S (.int k n) z fp) : z = .int k n := by
  cases h with
  | pr h => cases h; rfl
theorem value_callOk (p x : Int) (zs : List Int) (hp : 2 ≤ p ∧ p ≤ 10007) (hl : zs.length ≤ 1048576) :
    CallOk Try.prog 192 [.int .i64 p, .list zs.length (zs.map (V.int .i64)), .int .i64 x] ⟨true, .int .i64 (valV p x zs), [.undef, .undef, .undef]⟩ := by
  refine ⟨fun vs h => (by cases h), fun w S args fps hs hT _ _ _ hlt => ?_⟩
  have q0 := pr_int (hT 0 (by simp))
  have q2 := pr_int (hT 2 (by simp))
  have q1 := hT 1 (by simp)
  obtain ⟨a, hcap, e1, hI⟩ : ∃ (a : Option Addr) (c : Nat), args.getD 1 Go.undef = .slice a zs.length c ∧ Rf.Ints w.heap.size w (.slice a zs.length c) zs := by
    simp only [List.getElem_cons_succ, List.getElem_cons_zero] at q1
    generalize args.getD 1 Go.undef = z at q1
    generalize fps 1 = fp1 at q1
    cases q1 with
    | pr h =>
      cases h with
      | list f hd hn hm h h1 =>
        rename_i c A
        refine ⟨A, c, rfl, ?_⟩
        by_cases h0 : zs = []
        · subst h0; exact .inl ⟨A, c, rfl, rfl⟩
        · rcases hd with hd | ⟨ad, rfl, hb, hc⟩
          · exact absurd (List.map_eq_nil_iff.1 hd) h0
          · have h00 : 0 < (zs.map (V.int .i64)).length := by
              rw [List.length_map]; exact List.length_pos_iff.2 h0
            have hcell : ∀ k, k < zs.length → w.cell? (ad.add k) = some (.int .i64 (zs[k]?.getD 0)) := fun k hk => by
              have hk' : k < (zs.map (V.int .i64)).length := by rw [List.length_map]; exact hk
              have t := h k hk'
              rw [List.getElem_map] at t
              rw [hc k hk', show zs[k]?.getD 0 = zs[k] by simp [hk]]
              generalize f k = v at t
              cases t; rfl
            have c0 := hcell 0 (List.length_pos_iff.2 h0)
            obtain ⟨b, off, spot⟩ := ad
            have hs0 : spot = none := by
              rw [show (⟨b, off, spot⟩ : Addr).add 0 = ⟨b, off, spot⟩ from rfl] at c0
              unfold World.cell? at c0
              cases spot with
              | none => rfl
              | some s =>
                exfalso
                simp only [Option.isSome_some, if_true] at c0
                split at c0 <;> cases c0
            subst hs0
            refine .inr ⟨b, off, c, rfl, hn, hlt _ hb, fun j hj => ?_⟩
            have := hcell j hj
            unfold Addr.add at this
            split at this
            · rename_i e; subst e; exact this
            · exact this
  have e : args = #[.int .i64 p, .slice a zs.length hcap, .int .i64 x] := by
    apply Array.ext
    · exact hs
    · intro i hi hi2
      have hi3 : i < 3 := hi2
      rw [show args[i] = args.getD i Go.undef by simp [Array.getD, hi]]
      match i, hi3 with
      | 0, _ => exact q0
      | 1, _ => exact e1
      | 2, _ => exact q2
  subst e
  refine .inl ⟨_, _, Rf.enters_val _ w, (callsIn_wide.1 (Rf.value_in Fence.wide 3 trivial trivial trivial trivial rfl (by omega) p x hp a zs.length hcap zs hl w hI)).mono ?_⟩
  rintro e w' ⟨rfl, hB⟩
  refine ⟨S, [], fun _ => [], ?_⟩
  have hblk : ∀ b, b < w.heap.size → w'.heap[b]? = w.heap[b]? := hB.block
  have hout : ∀ k (hk : k < [V.undef, V.undef, V.undef].length), OutA w' S [V.undef, V.undef, V.undef][k] ((#[.int .i64 p, .slice a zs.length hcap, .int .i64 x] : Array Value).getD k Go.undef) [] := fun k hk => by
    have hk3 : k < 3 := hk
    match k, hk3 with
    | 0, _ => exact .inr (.inl ⟨rfl, fun cs h => (by cases h), rfl⟩)
    | 1, _ => exact .inr (.inl ⟨rfl, fun cs h => (by cases h), rfl⟩)
    | 2, _ => exact .inr (.inl ⟨rfl, fun cs h => (by cases h), rfl⟩)
  have hno : ∀ (n b : Nat), (b ∈ ([] : List Nat) ∨ ∃ k, k < n ∧ b ∈ ([] : List Nat)) → False := fun n b h => by
    rcases h with h | ⟨_, _, h⟩ <;> cases h
  exact { os := hB.os, tape := hB.tape, output := hB.output, size := hB.size, fm := fun b hb _ => hblk b hb, bs := fun b hb => (by unfold bsz; rw [hblk b hb]), hS := fun b hb => hb, hlt := fun b hb => Nat.lt_of_lt_of_le (hlt b hb) hB.size, hs1 := fun b hb => .inl hb, val := .inl ⟨rfl, .pr (.int ..), fun _ => .pr (.int ..)⟩, len := Nat.le_refl _, outs := hout, new := fun b hb => (hno _ b hb).elim, nd := (List.nodup_nil : ([] : List Nat).Nodup), oS := fun _ b hb => (hno _ b hb).elim }
end Go.Proofs.Ytabnganndcmcnaa.Ev
