/- The abstract interpreter: operations that leave memory alone. Conditions: none. -/
import Derived.Test.YtclebbjpacpbmaaEvD
set_option linter.unusedVariables false
set_option linter.unusedSimpArgs false
namespace Go.Proofs.Ytclebbjpacpbmaa.Ev
open Go

section
variable {w : World} {S : Nat → Prop} {J : Nat → Option (Option Nat)} {H : Nat → Option Ob}

/-! ### What a value must be -/
theorem VR.int_inv {k : IntKind} {n : Int} {x : Value} (h : VR w S J H (.int k n) x) : x = .int k n := by
  cases h with | pure h => cases h; rfl
theorem VR.bool_inv {b : Bool} {x : Value} (h : VR w S J H (.bool b) x) : x = .bool b := by
  cases h with | pure h => cases h; rfl
theorem VR.str_inv {s : ByteArray} {x : Value} (h : VR w S J H (.str s) x) : x = .string s := by
  cases h with | pure h => cases h; rfl
theorem VR.undef_inv {x : Value} (h : VR w S J H .undef x) : x = Go.undef := by
  cases h with | pure h => cases h; rfl
theorem VR.nili_inv {x : Value} (h : VR w S J H .nili x) : x = .nilIface := by
  cases h with | pure h => cases h; rfl
theorem VR.nils_inv {x : Value} (h : VR w S J H .nils x) : ∃ A, x = .slice A 0 0 := by
  cases h with | pure h => cases h; exact ⟨_, rfl⟩
theorem VR.iface_inv {t : TypeId} {v : V} {x : Value} (h : VR w S J H (.iface t v) x) : ∃ y, x = .iface t y := by
  cases h with
  | pure h => cases h; exact ⟨_, rfl⟩
  | iface h => exact ⟨_, rfl⟩
theorem VR.sl_inv {id ver off len : Nat} {x : Value} (h : VR w S J H (.sl id ver off len) x) : ∃ A c, x = .slice A len c ∧ J id ≠ none ∧ len ≤ c ∧ c ≤ maxLen ∧ (len = 0 ∨ ∃ a, A = some a) ∧
    ∀ ob, H id = some ob → ver ≤ ob.ver ∧ (ob.ver = ver → (c = 0 ∧ len = 0 ∧ (off = 0 → J id = some none)) ∨ 1 ≤ c ∧ ∃ b, J id = some (some b) ∧ A = some ⟨b, off, none⟩ ∧ off + c * ob.sz ≤ bsz w b) := by
  cases h with
  | pure h => cases h
  | sl hj hlc hcm hA h => exact ⟨_, _, rfl, hj, hlc, hcm, hA, h⟩
theorem VR.ptr_inv {id ver off : Nat} {x : Value} (h : VR w S J H (.ptr id ver off) x) : ∃ a, x = .pointer (some a) ∧ J id ≠ none ∧
    ∀ ob, H id = some ob → ver ≤ ob.ver ∧ (ob.ver = ver → ∃ b, J id = some (some b) ∧ a = ⟨b, off, none⟩) := by
  cases h with
  | pure h => cases h
  | ptr hj h => exact ⟨_, rfl, hj, h⟩
theorem VR.list_inv {n : Nat} {cs : List V} {x : Value} (h : VR w S J H (.list n cs) x) : ∃ (A : Option Addr) (c : Nat) (f : Nat → Value), x = .slice A n c ∧ (cs = [] ∨ ∃ ad, A = some ad ∧ S ad.block ∧ ∀ k, k < cs.length → w.cell? (ad.add k) = some (f k)) ∧ n ≤ c ∧ c ≤ maxLen ∧
    (∀ k (hk : k < cs.length), PR w S cs[k] (f k)) ∧ ∀ k, k < cs.length → (f k).oneCell' = true := by
  cases h with
  | pure h => cases h with | list f hd hn hm h h1 => exact ⟨_, _, f, rfl, hd, hn, hm, h, h1⟩
theorem VR.ref_inv {off : Nat} {cs : List V} {x : Value} (h : VR w S J H (.ref cs off) x) : ∃ (ad : Addr) (f : Nat → Value), x = .pointer (some (ad.add off)) ∧ S ad.block ∧ (∀ k, k < cs.length → w.cell? (ad.add k) = some (f k)) ∧
    (∀ k (hk : k < cs.length), PR w S cs[k] (f k)) ∧ ∀ k, k < cs.length → (f k).oneCell' = true := by
  cases h with
  | pure h => cases h with | ref f hs hd h h1 => exact ⟨_, f, rfl, hs, hd, h, h1⟩
theorem VR.agg_inv {cs : List V} {x : Value} (h : VR w S J H (.agg cs) x) : ∃ arr : Array Value, x = .agg arr ∧ cs.length = arr.size ∧ (∀ k (hk : k < cs.length), VR w S J H cs[k] (arr.getD k Go.undef)) ∧ ∀ k, k < cs.length → (arr.getD k Go.undef).oneCell' = true := by
  cases h with
  | pure h => cases h with | agg hl h h1 => exact ⟨_, rfl, hl, fun k hk => .pure (h k hk), h1⟩
  | agg hl h h1 => exact ⟨_, rfl, hl, h, h1⟩
theorem VR.tup_inv {cs : List V} {x : Value} (h : VR w S J H (.tup cs) x) : ∃ arr : Array Value, x = .tuple arr ∧ cs.length = arr.size ∧ ∀ k (hk : k < cs.length), VR w S J H cs[k] (arr.getD k Go.undef) := by
  cases h with
  | pure h => cases h with | tup hl h => exact ⟨_, rfl, hl, fun k hk => .pure (h k hk)⟩
  | tup hl h => exact ⟨_, rfl, hl, h⟩
theorem VR.func_inv {g : Fn} {fi ca : List V} {x : Value} (h : VR w S J H (.func g fi ca) x) : ∃ fx cx : Array Value, x = .func g fx cx ∧ fi.length = fx.size ∧ ca.length = cx.size ∧ (∀ k (hk : k < fi.length), VR w S J H fi[k] (fx.getD k Go.undef)) ∧
    ∀ k (hk : k < ca.length), VR w S J H ca[k] (cx.getD k Go.undef) := by
  cases h with
  | pure h => cases h with | func h1 h2 hf hc => exact ⟨_, _, rfl, h1, h2, fun k hk => .pure (hf k hk), fun k hk => .pure (hc k hk)⟩
  | func h1 h2 hf hc => exact ⟨_, _, rfl, h1, h2, hf, hc⟩
theorem VR.len_inv {v : V} {n : Nat} {x : Value} (h : VR w S J H v x) (hl : lenV v = some n) (hs : ∀ s, v ≠ .str s) : ∃ A c, x = .slice A n c ∧ n ≤ c := by
  unfold lenV at hl
  split at hl
  · injection hl with hl; subst hl; obtain ⟨A, rfl⟩ := h.nils_inv; exact ⟨_, _, rfl, Nat.le_refl _⟩
  · injection hl with hl; subst hl; obtain ⟨A, c, f, rfl, _, hn, _⟩ := h.list_inv; exact ⟨_, _, rfl, hn⟩
  · injection hl with hl; subst hl; obtain ⟨A, c, rfl, _, hlc, _⟩ := h.sl_inv; exact ⟨_, _, rfl, hlc⟩
  · exact absurd rfl (hs _)
  · cases hl

/-! ### Arithmetic, comparisons -/
theorem int_of {k : IntKind} {n : Int} : VR w S J H (.int k n) (.int k n) := .pure (.int k n)
theorem bool_of {b : Bool} : VR w S J H (.bool b) (.bool b) := .pure (.bool b)

theorem decide_ne (a b : Int) : decide (¬ a = b) = (a != b) := by
  by_cases h : a = b <;> simp [h]

theorem intOp_sound {P : Program} {op : BinOp} {k : IntKind} {a b : Int} {v : V} {t : TypeId} (h : intOp op k a b = some v) :
    ∃ z, (binOp op t (.int k a) (.int k b)).run P w = .ok z w ∧ VR w S J H v z := by
  cases op <;> simp only [intOp, Option.some.injEq, reduceCtorEq, decide_ne] at h
  case quo =>
    split at h
    · cases h
    · rename_i hb
      injection h with h
      subst h
      exact ⟨_, by simp [binOp_quo, Op.intDiv, hb], int_of⟩
  case rem =>
    split at h
    · cases h
    · rename_i hb
      injection h with h
      subst h
      exact ⟨_, by simp [binOp_rem, Op.intDiv, hb], int_of⟩
  all_goals subst h
  case add => exact ⟨_, by simp [binOp_add, Op.intArith], int_of⟩
  case sub => exact ⟨_, by simp [binOp_sub, Op.intArith], int_of⟩
  case mul => exact ⟨_, by simp [binOp_mul, Op.intArith], int_of⟩
  case and => exact ⟨_, by simp [binOp_and, intBits_and], int_of⟩
  case or => exact ⟨_, by simp [binOp_or, intBits_or], int_of⟩
  case xor => exact ⟨_, by simp [binOp_xor, intBits_xor], int_of⟩
  case andNot => exact ⟨_, by simp [binOp_andNot, intBits_andNot], int_of⟩
  case eql => exact ⟨.bool (a == b), by simp [binOp_eql], by rw [show (a == b) = decide (a = b) from rfl]; exact bool_of⟩
  case neq => exact ⟨.bool (a != b), by simp [binOp_neq], bool_of⟩
  case lss => exact ⟨_, by simp only [binOp_lss]; rfl, bool_of⟩
  case leq => exact ⟨_, by simp only [binOp_leq]; rfl, bool_of⟩
  case gtr => exact ⟨_, by simp only [binOp_gtr]; rfl, bool_of⟩
  case geq => exact ⟨_, by simp only [binOp_geq]; rfl, bool_of⟩

theorem shOp_sound {P : Program} {op : BinOp} {k k' : IntKind} {a b : Int} {v : V} {t : TypeId} (h : shOp op k a b = some v) :
    ∃ z, (binOp op t (.int k a) (.int k' b)).run P w = .ok z w ∧ VR w S J H v z := by
  unfold shOp at h
  split at h
  · cases h
  · rename_i hb
    cases op <;> simp only [Option.some.injEq, reduceCtorEq] at h
    all_goals subst h
    · exact ⟨_, by simp [binOp_shl, Op.shift, hb], int_of⟩
    · exact ⟨_, by simp [binOp_shr, Op.shift, hb], int_of⟩

theorem strOp_sound {P : Program} {op : BinOp} {s u : ByteArray} {v : V} {t : TypeId} (h : strOp op s u = some v) :
    ∃ z, (binOp op t (.string s) (.string u)).run P w = .ok z w ∧ VR w S J H v z := by
  cases op <;> simp only [strOp, Option.some.injEq, reduceCtorEq] at h
  case add =>
    split at h
    · rename_i hz
      injection h with h
      subst h
      refine ⟨.string (s ++ u), ?_, .pure (.str _)⟩
      have hn : ¬ (((s.size + u.size : Nat) : Int) > IntKind.i64.max) := by
        rw [IntKind.max_i64]; omega
      simp only [binOp, Op.stringOp]
      rw [if_neg hn]
      rfl
    · cases h
  all_goals subst h
  all_goals exact ⟨_, by simp only [binOp, Op.stringOp]; rfl, bool_of⟩

theorem equal_bool {P : Program} {t : TypeId} (hu : P.underlying t = some .bool) (a b : Bool) : (Op.equal t (.bool a) (.bool b)).run P w = .ok (a == b) w := by
  have h : ∀ d, (Op.equalIn (d + 1) t (.bool a) (.bool b)).run P w = .ok (a == b) w := fun d => by simp [Op.equalIn, run_underlying hu]
  exact h 9999
theorem equal_nili {P : Program} {t : TypeId} {ms : Array (String × TypeId)} (hu : P.underlying t = some (.interface ms)) : (Op.equal t .nilIface .nilIface).run P w = .ok true w := by
  have h : ∀ d, (Op.equalIn (d + 1) t .nilIface .nilIface).run P w = .ok true w := fun d => by simp [Op.equalIn, run_underlying hu]
  exact h 9999
theorem equal_ni {P : Program} {t : TypeId} {ms : Array (String × TypeId)} (hu : P.underlying t = some (.interface ms)) (d : TypeId) (z : Value) : (Op.equal t .nilIface (.iface d z)).run P w = .ok false w := by
  have h : ∀ n, (Op.equalIn (n + 1) t .nilIface (.iface d z)).run P w = .ok false w := fun n => by simp [Op.equalIn, run_underlying hu]
  exact h 9999
theorem equal_in {P : Program} {t : TypeId} {ms : Array (String × TypeId)} (hu : P.underlying t = some (.interface ms)) (d : TypeId) (z : Value) : (Op.equal t (.iface d z) .nilIface).run P w = .ok false w := by
  have h : ∀ n, (Op.equalIn (n + 1) t (.iface d z) .nilIface).run P w = .ok false w := fun n => by simp [Op.equalIn, run_underlying hu]
  exact h 9999

theorem eqV_sound {P : Program} {t : TypeId} {c : Bool} {a b : V} {x y : Value} {r : Bool} (h : eqV (P.underlying t) c a b = some r) (ha : VR w S J H a x) (hb : VR w S J H b y) :
    (Op.equal t x y).run P w = .ok r w ∧ (∀ op X Y, (isC X || isC Y) = c → (eqGuard op t X Y x y).run P w = .ok () w) ∧ (∀ op, (op = .eql → binOp op t x y = (do pure (.bool (← Op.equal t x y)))) ∧ (op = .neq → binOp op t x y = (do pure (.bool (!(← Op.equal t x y)))))) := by
  unfold eqV at h
  split at h
  · rename_i hu
    injection h with h
    subst h
    obtain rfl := ha.bool_inv
    obtain rfl := hb.bool_inv
    refine ⟨equal_bool hu _ _, fun op X Y _ => by rw [eqGuard_at_bool]; rfl, fun op => ⟨fun e => by subst e; rfl, fun e => by subst e; rfl⟩⟩
  · rename_i hu
    split at h
    · rename_i hc
      injection h with h
      subst h
      obtain rfl := ha.nili_inv
      obtain rfl := hb.nili_inv
      refine ⟨equal_nili hu, fun op X Y hXY => ?_, fun op => ⟨fun e => by subst e; rfl, fun e => by subst e; rfl⟩⟩
      rw [hc] at hXY
      cases X with
      | const c0 => rw [eqGuard_nil_constL]; rfl
      | _ =>
        cases Y with
        | const c0 => rw [eqGuard_nil_constR]; rfl
        | _ => simp [isC] at hXY
    · cases h
  · rename_i hu
    injection h with h
    subst h
    obtain rfl := ha.nili_inv
    obtain ⟨z, rfl⟩ := hb.iface_inv
    refine ⟨equal_ni hu _ _, fun op X Y _ => by rw [eqGuard_nil_iface]; rfl, fun op => ⟨fun e => by subst e; rfl, fun e => by subst e; rfl⟩⟩
  · rename_i hu
    injection h with h
    subst h
    obtain ⟨z, rfl⟩ := ha.iface_inv
    obtain rfl := hb.nili_inv
    refine ⟨equal_in hu _ _, fun op X Y _ => by rw [eqGuard_at_iface]; rfl, fun op => ⟨fun e => by subst e; rfl, fun e => by subst e; rfl⟩⟩
  · cases h

theorem equal_slice_nil {P : Program} {t e : TypeId} (hu : P.underlying t = some (.slice e)) (ad : Addr) (n c : Nat) : (Op.equal t (.slice (some ad) n c) (.slice none 0 0)).run P w = .ok false w := by
  have h : ∀ d, (Op.equalIn (d + 1) t (.slice (some ad) n c) (.slice none 0 0)).run P w = .ok false w := fun d => by simp [Op.equalIn, run_underlying hu]
  exact h 9999
theorem sliceNil_sound {P : Program} {t : TypeId} {Y : Operand} {a : V} {x y : Value} {r : Bool} (h : sliceNil (P.underlying t) Y a = some r) (ha : VR w S J H a x) (hY : ∀ c, Y = .const c → y = c) :
    (Op.equal t x y).run P w = .ok r w ∧ (∀ op X Z, (eqGuard op t X Z x y).run P w = .ok () w) ∧ (∀ op, (op = .eql → binOp op t x y = (do pure (.bool (← Op.equal t x y)))) ∧ (op = .neq → binOp op t x y = (do pure (.bool (!(← Op.equal t x y)))))) := by
  unfold sliceNil at h
  split at h
  · rename_i e n c cs hu
    injection h with h
    subst h
    obtain rfl := hY _ rfl
    obtain ⟨A, cp, f, rfl, hA, _⟩ := ha.list_inv
    rcases hA with hA | ⟨ad, rfl, _⟩
    · cases hA
    · exact ⟨equal_slice_nil hu _ _ _, fun op X Z => by rw [eqGuard_at_slice]; rfl, fun op => ⟨fun e => by subst e; rfl, fun e => by subst e; rfl⟩⟩
  · rename_i e id ver off n hu
    injection h with h
    subst h
    obtain rfl := hY _ rfl
    obtain ⟨A, cp, rfl, _, _, _, hA, _⟩ := ha.sl_inv
    rcases hA with hA | ⟨ad, rfl⟩
    · cases hA
    · exact ⟨equal_slice_nil hu _ _ _, fun op X Z => by rw [eqGuard_at_slice]; rfl, fun op => ⟨fun e => by subst e; rfl, fun e => by subst e; rfl⟩⟩
  · cases h

theorem binV_sound {P : Program} {op : BinOp} {t : TypeId} {X Y : Operand} {a b v : V} {x y : Value} (h : binV P op t X Y a b = some v) (ha : VR w S J H a x) (hb : VR w S J H b y) (hY : ∀ c, Y = .const c → y = c) :
    ∃ z, (do eqGuard op t X Y x y; binOp op t x y : Sem Value).run P w = .ok z w ∧ VR w S J H v z := by
  unfold binV at h
  split at h
  · rename_i k n k' n'
    obtain rfl := ha.int_inv
    obtain rfl := hb.int_inv
    have key : ∃ z, (binOp op t (.int k n) (.int k' n')).run P w = .ok z w ∧ VR w S J H v z := by
      split at h
      · exact shOp_sound h
      · exact shOp_sound h
      · split at h
        · rename_i e; subst e; exact intOp_sound h
        · cases h
    obtain ⟨z, hz, hv⟩ := key
    exact ⟨z, by rw [eqGuard_at_int]; simpa using hz, hv⟩
  · obtain rfl := ha.str_inv
    obtain rfl := hb.str_inv
    obtain ⟨z, hz, hv⟩ := strOp_sound (P := P) (w := w) (S := S) (J := J) (H := H) (t := t) h
    exact ⟨z, by rw [eqGuard_at_string]; simpa using hz, hv⟩
  · split at h
    · split at h
      · rename_i r hr
        injection h with h
        subst h
        obtain ⟨h1, h2, h3⟩ := sliceNil_sound hr ha hY
        refine ⟨.bool r, ?_, bool_of⟩
        rw [(h3 .eql).1 rfl]
        simp [h1, h2 .eql X Y]
      · obtain ⟨r, hr, rfl⟩ := Option.map_eq_some_iff.1 h
        obtain ⟨h1, h2, h3⟩ := eqV_sound hr ha hb
        refine ⟨.bool r, ?_, bool_of⟩
        rw [(h3 .eql).1 rfl]
        simp [h1, h2 .eql X Y rfl]
    · split at h
      · rename_i r hr
        injection h with h
        subst h
        obtain ⟨h1, h2, h3⟩ := sliceNil_sound hr ha hY
        refine ⟨.bool (!r), ?_, bool_of⟩
        rw [(h3 .neq).2 rfl]
        simp [h1, h2 .neq X Y]
      · obtain ⟨r, hr, rfl⟩ := Option.map_eq_some_iff.1 h
        obtain ⟨h1, h2, h3⟩ := eqV_sound hr ha hb
        refine ⟨.bool (!r), ?_, bool_of⟩
        rw [(h3 .neq).2 rfl]
        simp [h1, h2 .neq X Y rfl]
    · cases h

theorem unV_sound {P : Program} {op : UnOp} {a v : V} {x : Value} (h : unV op a = some v) (ha : VR w S J H a x) : ∃ z, (Op.unary op x).run P w = .ok z w ∧ VR w S J H v z := by
  unfold unV at h
  split at h
  · injection h with h; subst h
    obtain rfl := ha.bool_inv
    exact ⟨_, rfl, bool_of⟩
  · injection h with h; subst h
    obtain rfl := ha.int_inv
    exact ⟨_, by simp only [Op.unary, Op.intArith]; rfl, int_of⟩
  · cases h

end
end Go.Proofs.Ytclebbjpacpbmaa.Ev
