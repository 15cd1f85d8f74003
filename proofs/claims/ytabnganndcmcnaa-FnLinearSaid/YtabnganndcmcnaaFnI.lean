/- Texts as lists of bytes; the heights of a path, by both texts. Conditions: none. -/
import Derived.Test.YtabnganndcmcnaaFnH
import Derived.Test.YtabnganndcmcnaaFnL
set_option linter.unusedSimpArgs false
set_option linter.unusedVariables false
namespace Go.Proofs.Ytabnganndcmcnaa.Ev
open Go Go.Proofs
open List (map_replicate map_set map_append map_reverse map_take map_drop map_tail any_map all_map mapM_map map_map)
set_option maxRecDepth 4000
set_option maxHeartbeats 400000

/-! ### Bytes -/
def bl (s : ByteArray) : List Int := s.data.toList.map fun b => (b.toNat : Int)
theorem bl_len (s : ByteArray) : (bl s).length = s.size := by simp [bl]
theorem bytesV_bl (s : ByteArray) : bytesV s = (bl s).map (V.int .u8) := by simp [bytesV, bl]
def byteAt (s : ByteArray) (k : Nat) : UInt8 := s.data.toList.getD k 0
theorem data_at {s : ByteArray} {k : Nat} (h : k < s.size) : s.data[k]? = some (byteAt s k) := by
  have h' : k < s.data.size := h
  simp [byteAt, Array.getElem?_eq_getElem h']
theorem byteAt_rd {s : ByteArray} {k : Nat} (h : k < s.size) : ((byteAt s k).toNat : Int) = rdI (bl s) k := by
  have h' : k < s.data.size := h
  simp [byteAt, bl, rdI, Array.getElem?_eq_getElem h']
theorem bl_inj {s t : ByteArray} (h : bl s = bl t) : s = t := by
  have : s.data.toList = t.data.toList := by
    unfold bl at h
    refine List.map_inj_right (fun a b e => ?_) |>.1 h
    have : a.toNat = b.toNat := by omega
    exact UInt8.toNat_inj.1 this
  exact ByteArray.ext (Array.ext' this)
theorem ldB : ldT Try.prog 5 = some (false, 1) := by kernel_rfl
theorem szB : szT Try.prog 5 = some 1 := by kernel_rfl
theorem slB : slT Try.prog 22 = some (5, 1, 1) := by kernel_rfl
theorem undB : Try.prog.underlying 22 = some (.slice 5) := by kernel_rfl
theorem undU8 : Try.prog.underlying 5 = some (.int .u8) := by kernel_rfl
theorem undS : Try.prog.underlying 9 = some .string := by kernel_rfl
theorem ctS : cellTys Try.prog 9 = [none] := by kernel_rfl

theorem apB : apT Try.prog 22 = some (5, 1, 1) := by kernel_rfl
theorem zB : zeroT Try.prog 5 = some [.int .u8 0] := by kernel_rfl
theorem zeros1B : zerosV 1 [V.int .u8 0] = [.int .u8 0] := rfl

/-! ### Heights -/
def stepH (c i : Int) : Option Int := if c = 85 then some (i + 1) else if c = 68 then some (i - 1) else if c = 76 then some i else none
def hts : List Int → Int → Option (List Int)
  | [], _ => some []
  | c :: cs, i => match stepH c i with
    | none => none
    | some j => if j < 0 then none else (hts cs j).map (j :: ·)
/-- The heights of a path, with the first one. -/
def heightsR (s : ByteArray) (i : Int) : Option (List Int) := (hts (bl s) i).map (i :: ·)
theorem drop_rd {l : List Int} {k : Nat} (h : k < l.length) : l.drop k = rdI l k :: l.drop (k + 1) := by
  rw [List.drop_eq_getElem_cons h, rdI_get h]
theorem hts_len : ∀ (l : List Int) (i : Int) (q : List Int), hts l i = some q → q.length = l.length
  | [], i, q, h => by simp [hts] at h; subst h; rfl
  | c :: cs, i, q, h => by
    simp only [hts] at h
    split at h
    · cases h
    · split at h
      · cases h
      · obtain ⟨q', h1, rfl⟩ := Option.map_eq_some_iff.1 h
        simp [hts_len cs _ q' h1]

/-- One step of a loop over a path. -/
theorem hts_step {s : ByteArray} {k : Nat} {i cur : Int} {q : List Int} {r : Option (List Int)} (hk : k < s.size) (hh : r = (hts ((bl s).drop k) cur).map (fun t => i :: (q ++ t))) :
    r = match stepH (rdI (bl s) k) cur with
      | none => none
      | some j => if j < 0 then none else (hts ((bl s).drop (k + 1)) j).map (fun t => i :: ((q ++ [j]) ++ t)) := by
  rw [hh, drop_rd (by rw [bl_len]; exact hk), hts]
  cases stepH (rdI (bl s) k) cur with
  | none => rfl
  | some j =>
    simp only
    split
    · rfl
    · cases hts (List.drop (k + 1) (bl s)) j <;> simp

theorem run_l09Heights (s : ByteArray) (i : Int) (hs : s.size ≤ 1048576) (h0 : 0 ≤ i) (h1 : i ≤ 1048576) :
    runv E0 169 [.str s, .int .i64 i] = some ⟨true, .tup [.uniq 1 ((heightsR s i).getD []).length (((heightsR s i).getD []).map (V.int .i64)), .bool ((heightsR s i).isSome && decide (s.size ≤ 24))], [.undef, .undef]⟩ := by
  have cdk : codeOk Try.f169.ntmps (Try.f169.body.getD .skip) = true := by kernel_rfl
  refine run_of_WL (fn := Try.f169) rfl Try.func169 rfl ⟨by simp [Try.ntmps169], by simp [wideA, ints], cdk, by simp [Try.f169]⟩ ?_
  simp [go_sem, -map_replicate, -map_set, -map_append, -map_reverse, -map_take, -map_drop, -map_tail, -any_map, -all_map, -mapM_map, -map_map, slL, szI, ldI, zI, undL, apL, setI, rdI_get, Nat.add_one_le_iff, fillV, zeros1, zeros0, appendD, segV, lvO, goneOf, sliceD, bound, Nat.add_assoc]
  rw [WL_loop]
  refine WL_count (I := fun k st => ∃ (cur : Int) (q : List Int) (id ver : Nat), st.fr 0 = .str s ∧ st.fr 1 = .int .i64 cur ∧ st.fr 6 = .sl id ver 0 (k + 1) ∧ st.fr 7 = .int .i64 k ∧ st.H id = some (⟨ver, 2, 1, (i :: q).map (V.int .i64)⟩) ∧ id < st.nx ∧ q.length = k ∧ 0 ≤ cur ∧ cur ≤ i + k ∧ heightsR s i = (hts ((bl s).drop k) cur).map (fun t => i :: (q ++ t))) s.size ?_ ?_ 0 _ (by omega) ?_
  · rintro k st hk ⟨cur, q, id, ver, he0, he1, he2, he3, he4, he5, he6, he7, he8, he9⟩ next
    have hs1 := hts_step hk he9
    have hb := data_at hk
    have hb2 := byteAt_rd hk
    have hkd : decide (k < s.size) = true := by simpa using hk
    have w1 : IntKind.i64.wrap (cur + 1) = cur + 1 := IntWalk.i64_in _ (by omega)
    have w2 : IntKind.i64.wrap (cur - 1) = cur - 1 := IntWalk.i64_in _ (by omega)
    have w3 : IntKind.i64.wrap ((k : Int) + 1) = (k : Int) + 1 := IntWalk.i64_in _ (by omega)
    have c3 : (k + 2) * 8 ≤ 140737488355328 := by omega
    generalize rdI (bl s) k = c at hs1 hb2
    have fin : ∀ j, 0 ≤ j → j ≤ cur + 1 → heightsR s i = (hts ((bl s).drop (k + 1)) j).map (fun t => i :: ((q ++ [j]) ++ t)) → ∀ st' : St, st'.fr 0 = .str s → st'.fr 1 = .int .i64 j → st'.fr 6 = .sl id (ver + 1) 0 (k + 2) →
        st'.fr 7 = .int .i64 ((k : Int) + 1) → st'.H id = some ⟨ver + 1, 2, 1, (i :: (q ++ [j])).map (V.int .i64)⟩ → id < st'.nx → WL E0 false _ _ st' := fun j a1 a2 a3 st' a4 a5 a6 a7 a8 a9 =>
      next st' ⟨j, q ++ [j], id, ver + 1, a4, a5, a6, by rw [a7]; simp, a8, a9, by simp [he6], a1, by omega, a3⟩
    by_cases c85 : c = 85
    · subst c85
      have c2 : ¬ cur + 1 < 0 := by omega
      simp [stepH, c2] at hs1
      simp [go_sem, -map_replicate, -map_set, -map_append, -map_reverse, -map_take, -map_drop, -map_tail, -any_map, -all_map, -mapM_map, -map_map, slL, szI, ldI, zI, undL, apL, setI, rdI_get, Nat.add_one_le_iff, fillV, zeros1, zeros0, appendD, segV, lvO, goneOf, sliceD, bound, Nat.add_assoc, he0, he1, he2, he3, he4, hkd, hb, hb2, c2, w1, w3, undS, undU8, ne_new he5, new_ne he5, he6, c3]
      exact fin (cur + 1) (by omega) (by omega) (by rw [hs1]; simp) _ (by simp [upd, he0]) (by simp [upd]) (by simp [upd]) (by simp [upd]) (by simp [upd]) (by simp; omega)
    by_cases c68 : c = 68
    · subst c68
      by_cases c2 : cur - 1 < 0
      · simp [stepH, c2] at hs1
        simp [go_sem, -map_replicate, -map_set, -map_append, -map_reverse, -map_take, -map_drop, -map_tail, -any_map, -all_map, -mapM_map, -map_map, slL, szI, ldI, zI, undL, apL, setI, rdI_get, Nat.add_one_le_iff, fillV, zeros1, zeros0, appendD, segV, lvO, goneOf, sliceD, bound, Nat.add_assoc, he0, he1, he2, he3, he4, hkd, hb, hb2, c2, w2, undS, undU8]
        simp [mvcgen_simp, -map_replicate, -map_set, -map_append, -map_reverse, -map_take, -map_drop, -map_tail, -any_map, -all_map, -mapM_map, -map_map, Try.f169, hs1, ctBool]
      · simp [stepH, c2] at hs1
        simp [go_sem, -map_replicate, -map_set, -map_append, -map_reverse, -map_take, -map_drop, -map_tail, -any_map, -all_map, -mapM_map, -map_map, slL, szI, ldI, zI, undL, apL, setI, rdI_get, Nat.add_one_le_iff, fillV, zeros1, zeros0, appendD, segV, lvO, goneOf, sliceD, bound, Nat.add_assoc, he0, he1, he2, he3, he4, hkd, hb, hb2, c2, w2, w3, undS, undU8, ne_new he5, new_ne he5, he6, c3]
        exact fin (cur - 1) (by omega) (by omega) (by rw [hs1]; simp) _ (by simp [upd, he0]) (by simp [upd]) (by simp [upd]) (by simp [upd]) (by simp [upd]) (by simp; omega)
    by_cases c76 : c = 76
    · subst c76
      have c2 : ¬ cur < 0 := by omega
      simp [stepH, c2] at hs1
      simp [go_sem, -map_replicate, -map_set, -map_append, -map_reverse, -map_take, -map_drop, -map_tail, -any_map, -all_map, -mapM_map, -map_map, slL, szI, ldI, zI, undL, apL, setI, rdI_get, Nat.add_one_le_iff, fillV, zeros1, zeros0, appendD, segV, lvO, goneOf, sliceD, bound, Nat.add_assoc, he0, he1, he2, he3, he4, hkd, hb, hb2, c2, w3, undS, undU8, ne_new he5, new_ne he5, he6, c3]
      exact fin cur (by omega) (by omega) (by rw [hs1]; simp) _ (by simp [upd, he0]) (by simp [upd, he1]) (by simp [upd]) (by simp [upd]) (by simp [upd]) (by simp; omega)
    · simp [stepH, c85, c68, c76] at hs1
      simp [go_sem, -map_replicate, -map_set, -map_append, -map_reverse, -map_take, -map_drop, -map_tail, -any_map, -all_map, -mapM_map, -map_map, slL, szI, ldI, zI, undL, apL, setI, rdI_get, Nat.add_one_le_iff, fillV, zeros1, zeros0, appendD, segV, lvO, goneOf, sliceD, bound, Nat.add_assoc, he0, he1, he2, he3, he4, hkd, hb, hb2, c85, c68, c76, undS, undU8]
      simp [mvcgen_simp, -map_replicate, -map_set, -map_append, -map_reverse, -map_take, -map_drop, -map_tail, -any_map, -all_map, -mapM_map, -map_map, Try.f169, hs1, ctBool]
  · rintro st ⟨cur, q, id, ver, he0, he1, he2, he3, he4, he5, he6, he7, he8, he9⟩
    have hd : (bl s).drop s.size = [] := by simp [bl]
    rw [hd] at he9
    simp [hts] at he9
    simp [go_sem, -map_replicate, -map_set, -map_append, -map_reverse, -map_take, -map_drop, -map_tail, -any_map, -all_map, -mapM_map, -map_map, slL, szI, ldI, zI, undL, apL, setI, rdI_get, Nat.add_one_le_iff, fillV, zeros1, zeros0, appendD, segV, lvO, goneOf, sliceD, bound, Nat.add_assoc, he0, he1, he2, he3, he4, undS]
    simp [mvcgen_simp, -map_replicate, -map_set, -map_append, -map_reverse, -map_take, -map_drop, -map_tail, -any_map, -all_map, -mapM_map, -map_map, Try.f169, he0, he1, he2, he3, he4, he9, he6, ctBool]
    omega
  · refine ⟨i, [], _, 0, rfl, rfl, rfl, rfl, rfl, ?_, rfl, h0, by simp, ?_⟩
    · simp
    · simp [heightsR]
end Go.Proofs.Ytabnganndcmcnaa.Ev
