/- Texts as lists of bytes; the heights of a path, by both texts. Conditions: none. -/
import Derived.Test.YtacfkfdnncgjcaaFnL
set_option linter.unusedSimpArgs false
set_option linter.unusedVariables false
namespace Go.Proofs.Ytacfkfdnncgjcaa.Ev
open Go Go.Proofs
set_option maxRecDepth 4000
set_option maxHeartbeats 400000

/-! ### Bytes -/
def bl (s : ByteArray) : List Int := s.data.toList.map fun b => (b.toNat : Int)
theorem bl_len (s : ByteArray) : (bl s).length = s.size := by simp [bl]
theorem bytesV_bl (s : ByteArray) : bytesV s = (bl s).map (V.int .u8) := by simp [bytesV, bl]
def byteAt (s : ByteArray) (k : Nat) : UInt8 := s.data.toList.getD k 0
theorem data_at {s : ByteArray} {k : Nat} (h : k < s.size) : s.data[k]? = some (byteAt s k) := by
  have h' : k < s.data.size := h
  simp [byteAt, Array.getElem?_eq_getElem h']
theorem byteAt_rd {s : ByteArray} {k : Nat} (h : k < s.size) : ((byteAt s k).toNat : Int) = rdI (bl s) k := by
  have h' : k < s.data.size := h
  simp [byteAt, bl, rdI, Array.getElem?_eq_getElem h']
theorem bl_inj {s t : ByteArray} (h : bl s = bl t) : s = t := by
  have : s.data.toList = t.data.toList := by
    unfold bl at h
    refine List.map_inj_right (fun a b e => ?_) |>.1 h
    have : a.toNat = b.toNat := by omega
    exact UInt8.toNat_inj.1 this
  exact ByteArray.ext (Array.ext' this)
theorem ldB : ldT Try.prog 5 = some (false, 1) := by kernel_rfl
theorem szB : szT Try.prog 5 = some 1 := by kernel_rfl
theorem slB : slT Try.prog 22 = some (5, 1, 1) := by kernel_rfl
theorem undB : Try.prog.underlying 22 = some (.slice 5) := by kernel_rfl
theorem undU8 : Try.prog.underlying 5 = some (.int .u8) := by kernel_rfl
theorem undS : Try.prog.underlying 9 = some .string := by kernel_rfl
theorem ctS : cellTys Try.prog 9 = [none] := by kernel_rfl

theorem apB : apT Try.prog 22 = some (5, 1, 1) := by kernel_rfl
theorem zB : zeroT Try.prog 5 = some [.int .u8 0] := by kernel_rfl
theorem zeros1B : zerosV 1 [V.int .u8 0] = [.int .u8 0] := rfl

/-! ### Heights -/
def stepH (c i : Int) : Option Int := if c = 85 then some (i + 1) else if c = 68 then some (i - 1) else if c = 76 then some i else none
def hts : List Int → Int → Option (List Int)
  | [], _ => some []
  | c :: cs, i => match stepH c i with
    | none => none
    | some j => if j < 0 then none else (hts cs j).map (j :: ·)
/-- The heights of a path, with the first one. -/
def heightsR (s : ByteArray) (i : Int) : Option (List Int) := (hts (bl s) i).map (i :: ·)
theorem drop_rd {l : List Int} {k : Nat} (h : k < l.length) : l.drop k = rdI l k :: l.drop (k + 1) := by
  rw [List.drop_eq_getElem_cons h, rdI_get h]
theorem hts_len : ∀ (l : List Int) (i : Int) (q : List Int), hts l i = some q → q.length = l.length
  | [], i, q, h => by simp [hts] at h; subst h; rfl
  | c :: cs, i, q, h => by
    simp only [hts] at h
    split at h
    · cases h
    · split at h
      · cases h
      · obtain ⟨q', h1, rfl⟩ := Option.map_eq_some_iff.1 h
        simp [hts_len cs _ q' h1]

/-- One step of a loop over a path. -/
theorem hts_step {s : ByteArray} {k : Nat} {i cur : Int} {q : List Int} {r : Option (List Int)} (hk : k < s.size) (hh : r = (hts ((bl s).drop k) cur).map (fun t => i :: (q ++ t))) :
    r = match stepH (rdI (bl s) k) cur with
      | none => none
      | some j => if j < 0 then none else (hts ((bl s).drop (k + 1)) j).map (fun t => i :: ((q ++ [j]) ++ t)) := by
  rw [hh, drop_rd (by rw [bl_len]; exact hk), hts]
  cases stepH (rdI (bl s) k) cur with
  | none => rfl
  | some j =>
    simp only
    split
    · rfl
    · cases hts (List.drop (k + 1) (bl s)) j <;> simp

end Go.Proofs.Ytacfkfdnncgjcaa.Ev
