/- ReversePath: both texts and the law. Conditions: none. -/
import Derived.Test.YtabnganndcmcnaaFnJ
set_option linter.unusedSimpArgs false
set_option linter.unusedVariables false
namespace Go.Proofs.Ytabnganndcmcnaa.Ev
open Go Go.Proofs
open List (map_replicate map_set map_append map_reverse map_take map_drop map_tail any_map all_map mapM_map map_map)
set_option maxRecDepth 4000
set_option maxHeartbeats 4000000

/-! ### Lists turned round -/
def revAt (l : List Int) (i : Nat) : List Int := (List.range l.length).map fun p => if p < i ∨ l.length ≤ p + i then rdI l (l.length - 1 - p) else rdI l p
theorem revAt_len (l : List Int) (i : Nat) : (revAt l i).length = l.length := by simp [revAt]
theorem revAt_rd {l : List Int} {i p : Nat} (h : p < l.length) : rdI (revAt l i) p = if p < i ∨ l.length ≤ p + i then rdI l (l.length - 1 - p) else rdI l p := by
  simp [rdI, revAt, h]
theorem revAt_zero (l : List Int) : revAt l 0 = l := by
  apply rdI_eq (revAt_len l 0)
  intro j hj
  rw [revAt_len] at hj
  rw [revAt_rd hj, if_neg (by omega)]
theorem rdI_reverse {l : List Int} {p : Nat} (h : p < l.length) : rdI l.reverse p = rdI l (l.length - 1 - p) := by
  rw [← rdI_get (l := l.reverse) (by simpa using h), List.getElem_reverse, rdI_get]
theorem revAt_half (l : List Int) : revAt l (l.length / 2) = l.reverse := by
  apply rdI_eq (by simp [revAt_len])
  intro j hj
  rw [revAt_len] at hj
  rw [revAt_rd hj, rdI_reverse hj]
  by_cases h : j < l.length / 2 ∨ l.length ≤ j + l.length / 2
  · rw [if_pos h]
  · rw [if_neg h]
    congr 1
    omega
theorem revAt_succ {l : List Int} {i : Nat} (h : i < l.length / 2) :
    ((revAt l i).set i (rdI (revAt l i) (l.length - 1 - i))).set (l.length - 1 - i) (rdI (revAt l i) i) = revAt l (i + 1) := by
  apply rdI_eq (by simp [revAt_len])
  intro p hp
  simp [revAt_len] at hp
  rw [rdI_set (by simp [revAt_len]; exact hp), rdI_set (by simp [revAt_len]; exact hp), revAt_rd hp, revAt_rd (by omega), revAt_rd (by omega), revAt_rd hp]
  by_cases e1 : l.length - 1 - i = p
  · rw [if_pos e1, if_neg (by omega), if_pos (by omega)]
    congr 1; omega
  · rw [if_neg e1]
    by_cases e2 : i = p
    · rw [if_pos e2, if_neg (by omega), if_pos (by omega)]
      congr 1; omega
    · rw [if_neg e2]
      by_cases e3 : p < i ∨ l.length ≤ p + i
      · rw [if_pos e3, if_pos (by omega)]
      · rw [if_neg e3, if_neg (by omega)]

theorem run_ReverseB (l : List Int) (hl : l.length ≤ 1048576) :
    runv E0 168 [.uniq 1 l.length (l.map (V.int .u8))] = some ⟨true, .tup [], [.uniq 1 l.length (l.reverse.map (V.int .u8))]⟩ := by
  have cdk : codeOk Try.f168.ntmps (Try.f168.body.getD .skip) = true := by kernel_rfl
  refine run_of_WL (fn := Try.f168) rfl Try.func168 rfl ⟨by simp [Try.ntmps168], by simp [wideA, ints], cdk, by simp [Try.f168]⟩ ?_
  have w0 : IntKind.i64.wrap ((l.length : Int) - 1) = (l.length : Int) - 1 := IntWalk.i64_in _ (by omega)
  simp [go_sem, -map_replicate, -map_set, -map_append, -map_reverse, -map_take, -map_drop, -map_tail, -any_map, -all_map, -mapM_map, -map_map, slL, szI, ldI, zI, undL, apL, setI, rdI_get, Nat.add_one_le_iff, fillV, zeros1, zeros0, appendD, segV, lvO, goneOf, sliceD, bound, Nat.add_assoc, undB, w0]
  rw [WL_loop]
  refine WL_count (I := fun i st => st.fr 0 = .sl 0 0 0 l.length ∧ st.fr 2 = .int .i64 i ∧ st.fr 3 = .int .i64 ((l.length : Int) - 1 - i) ∧ st.H 0 = some (⟨0, 2, 1, (revAt l i).map (V.int .u8)⟩) ∧ 0 < st.nx) (l.length / 2) ?_ ?_ 0 _ (by omega) ?_
  · rintro i st hi ⟨he0, he1, he2, he3, he4⟩ next
    have hlen := revAt_len l i
    have hj : (l.length : Int) - 1 - i = ((l.length - 1 - i : Nat) : Int) := by omega
    rw [hj] at he2
    have b1 : (i : Int) < ((l.length - 1 - i : Nat) : Int) := by omega
    have b2 : l.length - 1 - i < l.length := by omega
    have b3 : i < l.length := by omega
    have w1 : IntKind.i64.wrap ((i : Int) + 1) = ((i + 1 : Nat) : Int) := IntWalk.i64_in _ (by omega)
    have w2 : IntKind.i64.wrap (((l.length - 1 - i : Nat) : Int) - 1) = (l.length : Int) - 1 - ((i + 1 : Nat) : Int) := by rw [IntWalk.i64_in _ (by omega)]; omega
    have hs := revAt_succ hi
    generalize l.length - 1 - i = j at *
    simp [go_sem, -map_replicate, -map_set, -map_append, -map_reverse, -map_take, -map_drop, -map_tail, -any_map, -all_map, -mapM_map, -map_map, slL, szI, ldI, zI, undL, apL, setI, rdI_get, Nat.add_one_le_iff, fillV, zeros1, zeros0, appendD, segV, lvO, goneOf, sliceD, bound, Nat.add_assoc, he0, he1, he2, he3, undB, slB, ldB, szB, b1, b2, b3, hlen, w1, w2]
    refine ⟨by kernel_rfl, by kernel_rfl, next _ ?_⟩
    simp [upd, row, -map_replicate, -map_set, -map_append, -map_reverse, -map_take, -map_drop, -map_tail, -map_map, he0, he1, he2, he3, hs]
  · rintro st ⟨he0, he1, he2, he3, he4⟩
    have b1 : ¬ (l.length : Int) / 2 < (l.length : Int) - 1 - (l.length : Int) / 2 := by omega
    rw [revAt_half] at he3
    simp [go_sem, -map_replicate, -map_set, -map_append, -map_reverse, -map_take, -map_drop, -map_tail, -any_map, -all_map, -mapM_map, -map_map, slL, szI, ldI, zI, undL, apL, setI, rdI_get, Nat.add_one_le_iff, fillV, zeros1, zeros0, appendD, segV, lvO, goneOf, sliceD, bound, Nat.add_assoc, he0, he1, he2, he3, b1]
    simp [mvcgen_simp, -map_replicate, -map_set, -map_append, -map_reverse, -map_take, -map_drop, -map_tail, -any_map, -all_map, -mapM_map, -map_map, Try.f168, he0, he1, he2, he3]
  · simp [upd, revAt_zero]

/-! ### ReversePath -/
def turn (c : Int) : Int := if c = 85 then 68 else if c = 68 then 85 else c
def strOf (l : List Int) : ByteArray := ⟨(l.map fun n => UInt8.ofNat n.toNat).toArray⟩
theorem mapM_byteOf : ∀ l : List Int, (l.map (V.int .u8)).mapM byteOf = some (l.map fun n => UInt8.ofNat n.toNat)
  | [] => rfl
  | a :: l => by rw [List.map_cons, List.mapM_cons, byteOf, mapM_byteOf l]; rfl
/-- The answer of ReversePath. -/
def turned (s : ByteArray) (i : Int) : ByteArray × Int := if (pathR s i 24).isSome then (strOf ((bl s).map turn).reverse, 0) else (⟨#[]⟩, 2)
theorem hts_bytes : ∀ (l : List Int) (i : Int), (hts l i).isSome → ∀ c ∈ l, c = 85 ∨ c = 68 ∨ c = 76
  | [], i, h, c, hc => by cases hc
  | a :: l, i, h, c, hc => by
    simp only [hts] at h
    split at h
    · cases h
    · rename_i j hj
      split at h
      · cases h
      · rcases List.mem_cons.1 hc with rfl | hc
        · unfold stepH at hj
          by_cases h1 : c = 85
          · exact .inl h1
          · by_cases h2 : c = 68
            · exact .inr (.inl h2)
            · by_cases h3 : c = 76
              · exact .inr (.inr h3)
              · simp [h1, h2, h3] at hj
        · exact hts_bytes l j (by simpa using h) c hc
theorem pathR_bytes {s : ByteArray} {i m : Int} (h : (pathR s i m).isSome) {k : Nat} (hk : k < s.size) : rdI (bl s) k = 85 ∨ rdI (bl s) k = 68 ∨ rdI (bl s) k = 76 := by
  have hk' : k < (bl s).length := by rw [bl_len]; exact hk
  refine hts_bytes (bl s) i ?_ _ (rdI_get hk' ▸ List.getElem_mem hk')
  unfold pathR at h
  split at h
  · simpa [heightsR] using h
  · cases h

theorem run_implReversePath (s : ByteArray) (i : Int) (hs : s.size ≤ 1048576) :
    runv E0 43 [.str s, .int .i64 i] = some ⟨true, .tup [.str (turned s i).1, .int .i64 (turned s i).2], [.undef, .undef]⟩ := by
  have cdk : codeOk Try.f43.ntmps (Try.f43.body.getD .skip) = true := by kernel_rfl
  refine run_of_WL (fn := Try.f43) rfl Try.func43 rfl ⟨by simp [Try.ntmps43], by simp [wideA, ints], cdk, by simp [Try.f43]⟩ ?_
  have hr := run_pathHeights s i 24 hs (by omega)
  cases ho : pathR s i 24 with
  | none =>
    rw [ho] at hr
    simp [go_sem, -map_replicate, -map_set, -map_append, -map_reverse, -map_take, -map_drop, -map_tail, -any_map, -all_map, -mapM_map, -map_map, slL, szI, ldI, zI, undL, apL, setI, rdI_get, Nat.add_one_le_iff, fillV, zeros1, zeros0, appendD, segV, lvO, goneOf, sliceD, bound, Nat.add_assoc, hr]
    simp [mvcgen_simp, -map_replicate, -map_set, -map_append, -map_reverse, -map_take, -map_drop, -map_tail, -any_map, -all_map, -mapM_map, -map_map, Try.f43, ilist, turned, ho]
  | some l =>
    rw [ho] at hr
    have hv := run_ReverseB (bl s) (by rw [bl_len]; exact hs)
    rw [bl_len] at hv
    have c1 : s.size ≤ 140737488355328 := by omega
    have h8 : (pathR s i 24).isSome := by rw [ho]; rfl
    have tl := bl_len s
    simp [go_sem, -map_replicate, -map_set, -map_append, -map_reverse, -map_take, -map_drop, -map_tail, -any_map, -all_map, -mapM_map, -map_map, slL, szI, ldI, zI, undL, apL, setI, rdI_get, Nat.add_one_le_iff, fillV, zeros1, zeros0, appendD, segV, lvO, goneOf, sliceD, bound, Nat.add_assoc, hr, undS, undB, undU8, isU8T, convD, bytesV_bl, c1, tl, hv]
    rw [WL_loop]
    refine WL_count (I := fun k st => ∃ id, st.fr 8 = .sl id 0 0 s.size ∧ st.fr 23 = .sl id 0 0 s.size ∧ st.fr 24 = .int .i64 s.size ∧ st.fr 25 = .int .i64 k ∧ st.H id = some (⟨0, 2, 1, (tab s.size (fun p => if p < k then turn (rdI (bl s).reverse p) else rdI (bl s).reverse p)).map (V.int .u8)⟩) ∧ id < st.nx) s.size ?_ ?_ 0 _ (by omega) ?_
    · rintro k st hk ⟨id, he0, he1, he2, he3, he4, he5⟩ next
      have hlen := tab_len s.size (fun p => if p < k then turn (rdI (bl s).reverse p) else rdI (bl s).reverse p)
      have hr := tab_rd (g := fun p => if p < k then turn (rdI (bl s).reverse p) else rdI (bl s).reverse p) hk
      have w1 : IntKind.i64.wrap ((k : Int) + 1) = (k : Int) + 1 := IntWalk.i64_in _ (by omega)
      simp only [Nat.lt_irrefl, if_false] at hr
      have hnext : ∀ x, x = turn (rdI (bl s).reverse k) → (tab s.size (fun p => if p < k then turn (rdI (bl s).reverse p) else rdI (bl s).reverse p)).set k x = tab s.size (fun p => if p < k + 1 then turn (rdI (bl s).reverse p) else rdI (bl s).reverse p) := by
        intro x hx
        rw [tab_set]
        apply tab_ext
        intro p hp
        by_cases e : k = p
        · subst e; simp [hx]
        · have : (p < k + 1) ↔ (p < k) := by omega
          simp [e, this]
      have hset : (tab s.size (fun p => if p < k then turn (rdI (bl s).reverse p) else rdI (bl s).reverse p)).set k (rdI (tab s.size (fun p => if p < k then turn (rdI (bl s).reverse p) else rdI (bl s).reverse p)) k) = (tab s.size (fun p => if p < k then turn (rdI (bl s).reverse p) else rdI (bl s).reverse p)) := by
        apply rdI_eq (by simp)
        intro j hj
        simp [hlen] at hj
        rw [rdI_set (by rw [hlen]; exact hj)]
        split
        · rename_i e; rw [e]
        · rfl
      rw [hr] at hset
      generalize tab s.size (fun p => if p < k then turn (rdI (bl s).reverse p) else rdI (bl s).reverse p) = A at *
      generalize rdI (bl s).reverse k = c at *
      have hk2 : k < A.length := by omega
      by_cases c85 : c = 85
      · subst c85
        have hn := hnext 68 rfl
        simp [go_sem, -map_replicate, -map_set, -map_append, -map_reverse, -map_take, -map_drop, -map_tail, -any_map, -all_map, -mapM_map, -map_map, slL, szI, ldI, zI, undL, apL, setI, rdI_get, Nat.add_one_le_iff, fillV, zeros1, zeros0, appendD, segV, lvO, goneOf, sliceD, bound, Nat.add_assoc, he0, he1, he2, he3, he4, hk, hlen, hr, w1, undB, slB, ldB, szB, undU8]
        refine next _ ⟨id, ?_⟩
        simp [upd, row, -map_replicate, -map_set, -map_append, -map_reverse, -map_take, -map_drop, -map_tail, -map_map, he0, he1, he2, he3, he4, hn]
        omega
      by_cases c68 : c = 68
      · subst c68
        have hn := hnext 85 rfl
        simp [go_sem, -map_replicate, -map_set, -map_append, -map_reverse, -map_take, -map_drop, -map_tail, -any_map, -all_map, -mapM_map, -map_map, slL, szI, ldI, zI, undL, apL, setI, rdI_get, Nat.add_one_le_iff, fillV, zeros1, zeros0, appendD, segV, lvO, goneOf, sliceD, bound, Nat.add_assoc, he0, he1, he2, he3, he4, hk, hlen, hr, w1, undB, slB, ldB, szB, undU8]
        refine next _ ⟨id, ?_⟩
        simp [upd, row, -map_replicate, -map_set, -map_append, -map_reverse, -map_take, -map_drop, -map_tail, -map_map, he0, he1, he2, he3, he4, hn]
        omega
      · have hn := hnext c (by simp [turn, c85, c68])
        rw [hset] at hn
        simp [go_sem, -map_replicate, -map_set, -map_append, -map_reverse, -map_take, -map_drop, -map_tail, -any_map, -all_map, -mapM_map, -map_map, slL, szI, ldI, zI, undL, apL, setI, rdI_get, Nat.add_one_le_iff, fillV, zeros1, zeros0, appendD, segV, lvO, goneOf, sliceD, bound, Nat.add_assoc, he0, he1, he2, he3, he4, hk, hlen, hr, c85, c68, w1, undB, slB, ldB, szB, undU8]
        refine next _ ⟨id, ?_⟩
        simp [upd, row, -map_replicate, -map_set, -map_append, -map_reverse, -map_take, -map_drop, -map_tail, -map_map, he0, he1, he2, he3, he4, hn]
        omega
    · rintro st ⟨id, he0, he1, he2, he3, he4, he5⟩
      have he : tab s.size (fun p => if p < s.size then turn (rdI (bl s).reverse p) else rdI (bl s).reverse p) = ((bl s).map turn).reverse := by
        symm
        apply eq_tab (by simp [bl_len])
        intro p hp
        have hp' : p < (bl s).length := by rw [bl_len]; exact hp
        rw [if_pos hp, ← List.map_reverse, ← rdI_get (by simpa using hp'), ← rdI_get (by simpa using hp'), List.getElem_map]
      rw [he] at he4
      simp [go_sem, -map_replicate, -map_set, -map_append, -map_reverse, -map_take, -map_drop, -map_tail, -any_map, -all_map, -mapM_map, -map_map, slL, szI, ldI, zI, undL, apL, setI, rdI_get, Nat.add_one_le_iff, fillV, zeros1, zeros0, appendD, segV, lvO, goneOf, sliceD, bound, Nat.add_assoc, he0, he1, he2, he3, he4, undB, undS, undU8, isU8T, convD, mapM_byteOf, bl_len]
      simp [mvcgen_simp, -map_replicate, -map_set, -map_append, -map_reverse, -map_take, -map_drop, -map_tail, -any_map, -all_map, -mapM_map, -map_map, Try.f43, turned, h8, strOf]
    · refine ⟨_, rfl, rfl, rfl, rfl, ?_, ?_⟩
      · have : tab s.size (fun p => if p < 0 then turn (rdI (bl s).reverse p) else rdI (bl s).reverse p) = (bl s).reverse := by
          symm; apply eq_tab (by simp [bl_len]); intro p hp; simp
        rw [this]
        rfl
      simp
def turnS (c : Int) : Int := if c = 85 then 68 else if c = 68 then 85 else 76
theorem turnS_eq {c : Int} (h : c = 85 ∨ c = 68 ∨ c = 76) : turnS c = turn c := by
  rcases h with rfl | rfl | rfl <;> rfl
theorem run_specReversePath (s : ByteArray) (i : Int) (hs : s.size ≤ 1048576) :
    runv E0 44 [.str s, .int .i64 i] = some ⟨true, .tup [.str (turned s i).1, .int .i64 (turned s i).2], [.undef, .undef]⟩ := by
  have cdk : codeOk Try.f44.ntmps (Try.f44.body.getD .skip) = true := by kernel_rfl
  refine run_of_WL (fn := Try.f44) rfl Try.func44 rfl ⟨by simp [Try.ntmps44], by simp [wideA, ints], cdk, by simp [Try.f44]⟩ ?_
  by_cases h2 : 0 ≤ i ∧ i ≤ 24
  case neg =>
    have hi := run_l01In' i 0 24
    rw [in24, decide_eq_false h2] at hi
    have hp : pathR s i 24 = none := by
      unfold pathR; rw [if_neg]; omega
    simp [go_sem, -map_replicate, -map_set, -map_append, -map_reverse, -map_take, -map_drop, -map_tail, -any_map, -all_map, -mapM_map, -map_map, slL, szI, ldI, zI, undL, apL, setI, rdI_get, Nat.add_one_le_iff, fillV, zeros1, zeros0, appendD, segV, lvO, goneOf, sliceD, bound, Nat.add_assoc, hi]
    simp [mvcgen_simp, -map_replicate, -map_set, -map_append, -map_reverse, -map_take, -map_drop, -map_tail, -any_map, -all_map, -mapM_map, -map_map, Try.f44, turned, hp, ctS]
  have hr := run_l09Heights s i hs h2.1 (by omega)
  have hi := run_l01In' i 0 24
  rw [in24, decide_eq_true h2] at hi
  cases hok : ((heightsR s i).isSome && decide (s.size ≤ 24)) with
  | false =>
    have hp : (pathR s i 24).isSome = false := by
      unfold pathR
      split
      · rename_i h; simpa [h.1] using hok
      · rfl
    rw [hok] at hr
    simp [go_sem, -map_replicate, -map_set, -map_append, -map_reverse, -map_take, -map_drop, -map_tail, -any_map, -all_map, -mapM_map, -map_map, slL, szI, ldI, zI, undL, apL, setI, rdI_get, Nat.add_one_le_iff, fillV, zeros1, zeros0, appendD, segV, lvO, goneOf, sliceD, bound, Nat.add_assoc, hr, hi]
    simp [mvcgen_simp, -map_replicate, -map_set, -map_append, -map_reverse, -map_take, -map_drop, -map_tail, -any_map, -all_map, -mapM_map, -map_map, Try.f44, turned, hp, ctS]
  | true =>
    simp only [Bool.and_eq_true, decide_eq_true_eq] at hok
    have hp : (pathR s i 24).isSome = true := by
      unfold pathR; rw [if_pos ⟨hok.2, h2⟩]; exact hok.1
    have w0 : IntKind.i64.wrap ((s.size : Int) - 1) = (s.size : Int) - 1 := IntWalk.i64_in _ (by omega)
    simp only [hok.1, hok.2, decide_true, Bool.and_true] at hr
    simp [go_sem, -map_replicate, -map_set, -map_append, -map_reverse, -map_take, -map_drop, -map_tail, -any_map, -all_map, -mapM_map, -map_map, slL, szI, ldI, zI, undL, apL, setI, rdI_get, Nat.add_one_le_iff, fillV, zeros1, zeros0, appendD, segV, lvO, goneOf, sliceD, bound, Nat.add_assoc, hr, hi, w0, ldB, szB, slB, undB, undU8, undS, apB, zB, zeros1B]
    rw [WL_loop]
    refine WL_count (I := fun k st => st.fr 0 = .str s ∧ st.fr 9 = .int .i64 ((s.size : Int) - 1 - k) ∧ Grow .u8 0 st 8 (tab k (fun p => turnS (rdI (bl s) (s.size - 1 - p))))) s.size ?_ ?_ 0 _ (by omega) ?_
    · rintro k st hk ⟨he0, he1, he2⟩ next
      have hj : (s.size : Int) - 1 - k = ((s.size - 1 - k : Nat) : Int) := by omega
      rw [hj] at he1
      have hj2 : s.size - 1 - k < s.size := by omega
      have hb := data_at hj2
      have hb2 := byteAt_rd hj2
      have w1 : IntKind.i64.wrap (((s.size - 1 - k : Nat) : Int) - 1) = (s.size : Int) - 1 - ((k + 1 : Nat) : Int) := by rw [IntWalk.i64_in _ (by omega)]; omega
      have ht := tab_succ k (fun p => turnS (rdI (bl s) (s.size - 1 - p)))
      have htl := tab_len k (fun p => turnS (rdI (bl s) (s.size - 1 - p)))
      have b0 : (0 : Int) ≤ ((s.size - 1 - k : Nat) : Int) := by omega
      have c3 : k + 1 ≤ 140737488355328 := by omega
      generalize rdI (bl s) (s.size - 1 - k) = c at *
      generalize s.size - 1 - k = j at *
      have fin : ∀ st' : St, st'.fr 0 = .str s → st'.fr 9 = .int .i64 ((s.size : Int) - 1 - ((k + 1 : Nat) : Int)) → Grow .u8 0 st' 8 (tab k (fun p => turnS (rdI (bl s) (s.size - 1 - p))) ++ [turnS c]) → WL E0 false _ _ st' := fun st' a1 a2 a3 => next st' ⟨a1, a2, by rw [ht]; exact a3⟩
      generalize tab k (fun p => turnS (rdI (bl s) (s.size - 1 - p))) = A at *
      rcases he2 with ⟨rfl, h8⟩ | ⟨id, ver, h8, hH, hx, hlo⟩
      · by_cases c85 : c = 85
        · subst c85
          simp [go_sem, -map_replicate, -map_set, -map_append, -map_reverse, -map_take, -map_drop, -map_tail, -any_map, -all_map, -mapM_map, -map_map, slL, szI, ldI, zI, undL, apL, setI, rdI_get, Nat.add_one_le_iff, fillV, zeros1, zeros0, appendD, segV, lvO, goneOf, sliceD, bound, Nat.add_assoc, he0, he1, h8, hb, hb2, b0, w1, ldB, szB, slB, undB, undU8, undS, apB, zB, zeros1B]
          exact fin _ (by simp [upd, he0]) (by simp [upd]) (Grow.own _ rfl (by simp) (by simp [upd, turnS]) (by simp) (by first | (simp; done) | (simp; omega)))
        by_cases c68 : c = 68
        · subst c68
          simp [go_sem, -map_replicate, -map_set, -map_append, -map_reverse, -map_take, -map_drop, -map_tail, -any_map, -all_map, -mapM_map, -map_map, slL, szI, ldI, zI, undL, apL, setI, rdI_get, Nat.add_one_le_iff, fillV, zeros1, zeros0, appendD, segV, lvO, goneOf, sliceD, bound, Nat.add_assoc, he0, he1, h8, hb, hb2, b0, w1, ldB, szB, slB, undB, undU8, undS, apB, zB, zeros1B]
          exact fin _ (by simp [upd, he0]) (by simp [upd]) (Grow.own _ rfl (by simp) (by simp [upd, turnS]) (by simp) (by first | (simp; done) | (simp; omega)))
        · simp [go_sem, -map_replicate, -map_set, -map_append, -map_reverse, -map_take, -map_drop, -map_tail, -any_map, -all_map, -mapM_map, -map_map, slL, szI, ldI, zI, undL, apL, setI, rdI_get, Nat.add_one_le_iff, fillV, zeros1, zeros0, appendD, segV, lvO, goneOf, sliceD, bound, Nat.add_assoc, he0, he1, h8, hb, hb2, b0, w1, c85, c68, ldB, szB, slB, undB, undU8, undS, apB, zB, zeros1B]
          exact fin _ (by simp [upd, he0]) (by simp [upd]) (Grow.own _ rfl (by simp) (by simp [upd, turnS, c85, c68]) (by simp) (by first | (simp; done) | (simp; omega)))
      · by_cases c85 : c = 85
        · subst c85
          simp [go_sem, -map_replicate, -map_set, -map_append, -map_reverse, -map_take, -map_drop, -map_tail, -any_map, -all_map, -mapM_map, -map_map, slL, szI, ldI, zI, undL, apL, setI, rdI_get, Nat.add_one_le_iff, fillV, zeros1, zeros0, appendD, segV, lvO, goneOf, sliceD, bound, Nat.add_assoc, he0, he1, h8, hH, hb, hb2, b0, w1, htl, c3, ne_new hx, new_ne hx, ldB, szB, slB, undB, undU8, undS, apB, zB, zeros1B]
          exact fin _ (by simp [upd, he0]) (by simp [upd]) (Grow.own _ rfl (by simp [htl]) (by simp [upd, turnS]) (by simp; omega) hlo)
        by_cases c68 : c = 68
        · subst c68
          simp [go_sem, -map_replicate, -map_set, -map_append, -map_reverse, -map_take, -map_drop, -map_tail, -any_map, -all_map, -mapM_map, -map_map, slL, szI, ldI, zI, undL, apL, setI, rdI_get, Nat.add_one_le_iff, fillV, zeros1, zeros0, appendD, segV, lvO, goneOf, sliceD, bound, Nat.add_assoc, he0, he1, h8, hH, hb, hb2, b0, w1, htl, c3, ne_new hx, new_ne hx, ldB, szB, slB, undB, undU8, undS, apB, zB, zeros1B]
          exact fin _ (by simp [upd, he0]) (by simp [upd]) (Grow.own _ rfl (by simp [htl]) (by simp [upd, turnS]) (by simp; omega) hlo)
        · simp [go_sem, -map_replicate, -map_set, -map_append, -map_reverse, -map_take, -map_drop, -map_tail, -any_map, -all_map, -mapM_map, -map_map, slL, szI, ldI, zI, undL, apL, setI, rdI_get, Nat.add_one_le_iff, fillV, zeros1, zeros0, appendD, segV, lvO, goneOf, sliceD, bound, Nat.add_assoc, he0, he1, h8, hH, hb, hb2, b0, w1, c85, c68, htl, c3, ne_new hx, new_ne hx, ldB, szB, slB, undB, undU8, undS, apB, zB, zeros1B]
          exact fin _ (by simp [upd, he0]) (by simp [upd]) (Grow.own _ rfl (by simp [htl]) (by simp [upd, turnS, c85, c68]) (by simp; omega) hlo)
    · rintro st ⟨he0, he1, he2⟩
      rw [show (s.size : Int) - 1 - s.size = -1 by omega] at he1
      have he : tab s.size (fun p => turnS (rdI (bl s) (s.size - 1 - p))) = ((bl s).map turn).reverse := by
        symm
        apply eq_tab (by simp [bl_len])
        intro p hq
        have hp' : p < (bl s).length := by rw [bl_len]; exact hq
        rw [turnS_eq (pathR_bytes hp (by omega)), ← List.map_reverse, ← rdI_get (by simpa using hp'), List.getElem_map, List.getElem_reverse, rdI_get]
        simp [bl_len]
      rw [he] at he2
      rcases he2 with ⟨h0, h8⟩ | ⟨id, ver, h8, hH, hx, hlo⟩
      · simp [go_sem, -map_replicate, -map_set, -map_append, -map_reverse, -map_take, -map_drop, -map_tail, -any_map, -all_map, -mapM_map, -map_map, slL, szI, ldI, zI, undL, apL, setI, rdI_get, Nat.add_one_le_iff, fillV, zeros1, zeros0, appendD, segV, lvO, goneOf, sliceD, bound, Nat.add_assoc, he0, he1, h8, isU8T, convD, ldB, szB, slB, undB, undU8, undS, apB, zB, zeros1B]
        simp [mvcgen_simp, -map_replicate, -map_set, -map_append, -map_reverse, -map_take, -map_drop, -map_tail, -any_map, -all_map, -mapM_map, -map_map, Try.f44, turned, hp, ctS, strOf, h0]
      · simp [go_sem, -map_replicate, -map_set, -map_append, -map_reverse, -map_take, -map_drop, -map_tail, -any_map, -all_map, -mapM_map, -map_map, slL, szI, ldI, zI, undL, apL, setI, rdI_get, Nat.add_one_le_iff, fillV, zeros1, zeros0, appendD, segV, lvO, goneOf, sliceD, bound, Nat.add_assoc, he0, he1, h8, hH, isU8T, convD, mapM_byteOf, bl_len, ldB, szB, slB, undB, undU8, undS, apB, zB, zeros1B]
        simp [mvcgen_simp, -map_replicate, -map_set, -map_append, -map_reverse, -map_take, -map_drop, -map_tail, -any_map, -all_map, -mapM_map, -map_map, Try.f44, turned, hp, strOf, ctS]
    · refine ⟨rfl, by simp [upd], .inl ⟨rfl, rfl⟩⟩
end Go.Proofs.Ytabnganndcmcnaa.Ev
