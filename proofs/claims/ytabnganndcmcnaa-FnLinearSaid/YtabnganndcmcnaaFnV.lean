/- Sums over weighted paths: both texts. Conditions: none. -/
import Derived.Test.YtabnganndcmcnaaFnT
set_option linter.unusedSimpArgs false
set_option linter.unusedVariables false
namespace Go.Proofs.Ytabnganndcmcnaa.Ev
open Go Go.Proofs
open List (map_replicate map_set map_append map_reverse map_take map_drop map_tail any_map all_map mapM_map map_map)
set_option maxRecDepth 4000
set_option maxHeartbeats 4000000

/-! ### One step of all sums -/
def addAt (p : Int) (l : List Int) (i : Nat) (x : Int) : List Int := l.set i ((rdI l i + x) % p)
theorem addAt_len (p : Int) (l : List Int) (i : Nat) (x : Int) : (addAt p l i x).length = l.length := by simp [addAt]
def fine (p : Int) (l : List Int) : Prop := ∀ i, 0 ≤ rdI l i ∧ rdI l i < p
theorem addAt_fine {p : Int} (hp : 2 ≤ p ∧ p ≤ 10007) {l : List Int} (h : fine p l) (i : Nat) (x : Int) : fine p (addAt p l i x) := by
  intro j
  unfold addAt
  by_cases hj : j < l.length
  · rw [rdI_set hj]
    split
    · exact mod_small hp _
    · exact h j
  · have : rdI (l.set i ((rdI l i + x) % p)) j = 0 := by simp [rdI, hj]
    rw [this]; omega
def spJ (p : Int) (a b : List Int) (r h : Nat) (x : Int) (next : List Int) : List Int :=
  let n1 := addAt p next h (rdI a h * x)
  let n2 := if h + 1 < r then addAt p n1 (h + 1) x else n1
  if 0 < h then addAt p n2 (h - 1) (rdI b h * x) else n2
def spJTo (p : Int) (a b : List Int) (r : Nat) (now : List Int) : Nat → List Int
  | 0 => List.replicate r 0
  | h + 1 => spJ p a b r h (rdI now h) (spJTo p a b r now h)
def wkJ (p : Int) (a b : List Int) (r : Nat) (start : List Int) : Nat → List Int
  | 0 => start
  | t + 1 => spJTo p a b r (wkJ p a b r start t) r
theorem spJ_len (p : Int) (a b : List Int) (r h : Nat) (x : Int) (next : List Int) : (spJ p a b r h x next).length = next.length := by
  unfold spJ; simp only; (repeat' split) <;> simp [addAt_len]
theorem spJTo_len (p : Int) (a b : List Int) (r : Nat) (now : List Int) : ∀ h, (spJTo p a b r now h).length = r
  | 0 => by simp [spJTo]
  | h + 1 => by rw [spJTo, spJ_len, spJTo_len p a b r now h]
theorem spJTo_fine {p : Int} (hp : 2 ≤ p ∧ p ≤ 10007) (a b : List Int) (r : Nat) (now : List Int) : ∀ h, fine p (spJTo p a b r now h)
  | 0 => fun i => by
    have : rdI (List.replicate r (0 : Int)) i = 0 := by
      simp [rdI, List.getD_eq_getElem?_getD, List.getElem?_replicate]; split <;> rfl
    rw [spJTo, this]; omega
  | h + 1 => by
    have ih := spJTo_fine hp a b r now h
    rw [spJTo]
    unfold spJ
    have k1 := addAt_fine hp ih h (rdI a h * rdI now h)
    have k2 := addAt_fine hp k1 (h + 1) (rdI now h)
    simp only
    by_cases c1 : h + 1 < r
    · rw [if_pos c1]
      split
      · exact addAt_fine hp k2 _ _
      · exact k2
    · rw [if_neg c1]
      split
      · exact addAt_fine hp k1 _ _
      · exact k1
theorem wkJ_len (p : Int) (a b : List Int) (r : Nat) (start : List Int) (hs : start.length = r) : ∀ t, (wkJ p a b r start t).length = r
  | 0 => hs
  | t + 1 => spJTo_len ..
theorem wkJ_fine {p : Int} (hp : 2 ≤ p ∧ p ≤ 10007) (a b : List Int) (r : Nat) (start : List Int) (hs : fine p start) : ∀ t, fine p (wkJ p a b r start t)
  | 0 => hs
  | t + 1 => spJTo_fine hp a b r _ r

theorem run_walk (p : Int) (a b s : List Int) (n r : Nat) (h : jacB p a b = true) (hsr : s.length = r) (hs : 0 < r) (hr : r ≤ a.length) (hf : fine p s) (hn : n ≤ 1000000) :
    runv E0 249 [(V.agg [V.int .i64 (p), (V.list (List.length (a)) (List.map (V.int .i64) (a))), (V.list (List.length (b)) (List.map (V.int .i64) (b)))]), .uniq 1 r (s.map (V.int .i64)), .int .i64 (n : Int)] = some ⟨true, .uniq 1 r ((wkJ p a b r s n).map (V.int .i64)), [.agg [.undef, .undef, .undef], if n = 0 then .undef else .uniq 1 r (s.map (V.int .i64)), .undef]⟩ := by
  have cdk : codeOk Try.f249.ntmps (Try.f249.body.getD .skip) = true := by kernel_rfl
  refine run_of_WL (fn := Try.f249) rfl Try.func249 rfl ⟨by simp [Try.ntmps249], by simp [wideA, ints], cdk, by simp [Try.f249]⟩ ?_
  have hp := jacB_prime h
  have hl := jacB_len h
  have c1 : r * 8 ≤ 140737488355328 := by omega
  have c2 : (r : Int) ≤ 9223372036854775807 := by omega
  simp [go_sem, -map_replicate, -map_set, -map_append, -map_reverse, -map_take, -map_drop, -map_tail, -any_map, -all_map, -mapM_map, -map_map, slL, szI, ldI, zI, undL, apL, setI, rdI_get, Nat.add_one_le_iff, fillV, zeros1, zeros0, appendD, segV, lvO, goneOf, sliceD, bound, Nat.add_assoc, szL, ldL, setCs0, setCs1, setCs2, setCsA2, setCsA3, ldM, fM0, fM1, szM, zM, plM0, plM1, agM, paM, ldJ, fJ0, fJ1, fJ2, szJ, zJ, plJ0, plJ1, plJ2, agJ, paJ, run_Jfield]
  rw [WL_loop]
  refine WL_count (I := fun t st => ∃ idm, st.fr 1 = .sl idm 0 0 r ∧ st.fr 3 = .ptr 24 0 0 ∧ st.fr 7 = .int .i64 p ∧ st.fr 8 = .int .i64 r ∧ st.fr 16 = .int .i64 n ∧ st.fr 17 = .int .i64 t ∧ st.H 24 = some (⟨0, 1, 1, [.int .i64 p, (V.list (List.length (a)) (List.map (V.int .i64) (a))), (V.list (List.length (b)) (List.map (V.int .i64) (b)))]⟩) ∧ st.H idm = some (⟨0, 2, 1, (wkJ p a b r s t).map (V.int .i64)⟩) ∧ idm < st.nx ∧ 24 < st.nx ∧ idm ≠ 24 ∧ st.H 8 = some (⟨0, 2, 1, s.map (V.int .i64)⟩) ∧ ((t = 0 → idm = 8) ∧ (0 < t → idm ≠ 8))) n ?_ ?_ 0 _ (by omega) ?_
  · rintro t st ht ⟨idm, he0, he1, he2, he3, he4, he5, he6, he7, he8, he9, he10, he11, he12⟩ next
    have lm := wkJ_len p a b r s hsr t
    have fm := wkJ_fine hp a b r s hf t
    have wt : IntKind.i64.wrap ((t : Int) + 1) = (t : Int) + 1 := IntWalk.i64_in _ (by omega)
    have n1 := ne_new he8
    have n2 := ne_new he9
    generalize hnow : wkJ p a b r s t = now at *
    simp [go_sem, -map_replicate, -map_set, -map_append, -map_reverse, -map_take, -map_drop, -map_tail, -any_map, -all_map, -mapM_map, -map_map, slL, szI, ldI, zI, undL, apL, setI, rdI_get, Nat.add_one_le_iff, fillV, zeros1, zeros0, appendD, segV, lvO, goneOf, sliceD, bound, Nat.add_assoc, szL, ldL, setCs0, setCs1, setCs2, setCsA2, setCsA3, ldM, fM0, fM1, szM, zM, plM0, plM1, agM, paM, ldJ, fJ0, fJ1, fJ2, szJ, zJ, plJ0, plJ1, plJ2, agJ, paJ, he0, he1, he2, he3, he4, he5, he6, he7, he11, ht, c1, c2, zerosI, n1, n2]
    rw [WL_loop]
    refine WL_count (I := fun q st' => ∃ idn, st'.fr 3 = .ptr 24 0 0 ∧ st'.fr 7 = .int .i64 p ∧ st'.fr 8 = .int .i64 r ∧ st'.fr 9 = .sl idn 0 0 r ∧ st'.fr 16 = .int .i64 n ∧ st'.fr 17 = .int .i64 t ∧ st'.fr 21 = .sl idm 0 0 r ∧ st'.fr 22 = .int .i64 r ∧ st'.fr 23 = .int .i64 q ∧ st'.H 24 = some (⟨0, 1, 1, [.int .i64 p, (V.list (List.length (a)) (List.map (V.int .i64) (a))), (V.list (List.length (b)) (List.map (V.int .i64) (b)))]⟩) ∧ st'.H idm = some (⟨0, 2, 1, now.map (V.int .i64)⟩) ∧ st'.H idn = some (⟨0, 2, 1, (spJTo p a b r now q).map (V.int .i64)⟩) ∧ idn < st'.nx ∧ 24 < st'.nx ∧ idm ≠ idn ∧ 24 < idn ∧ st'.H 8 = some (⟨0, 2, 1, s.map (V.int .i64)⟩)) r ?_ ?_ 0 _ (by omega) ?_
    · rintro q st' hq ⟨idn, hg0, hg1, hg2, hg3, hg4, hg5, hg6, hg7, hg8, hg9, hg10, hg11, hg12, hg13, hg14, hg15, hg16⟩ next'
      have lA := spJTo_len p a b r now q
      have fA := spJTo_fine hp a b r now q
      have eA : spJTo p a b r now (q + 1) = spJ p a b r q (rdI now q) (spJTo p a b r now q) := rfl
      have rx := fm q
      have ra := jacB_a h (show q < a.length by omega)
      have rb := jacB_b h (show q < a.length by omega)
      have i1 : ¬ idn = idm := fun e => hg14 e.symm
      have i2 : ¬ 24 = idn := by omega
      have i3 : ¬ 24 = idm := fun e => he10 e.symm
      have hqn : q < now.length := by omega
      have hqa : q < a.length := by omega
      have hqb : q < b.length := by omega
      have za : (q : Int) < a.length := by omega
      have zb : (q : Int) < b.length := by omega
      have wq : IntKind.i64.wrap ((q : Int) + 1) = ((q + 1 : Nat) : Int) := by rw [IntWalk.i64_in _ (by omega)]; omega
      generalize hA : spJTo p a b r now q = A at *
      generalize hx : rdI now q = x at *
      have i4 : ¬ 8 = idn := by omega
      have m1 := mul_small hp ra rx
      have m2 := mul_small hp (show 0 ≤ rdI b q ∧ rdI b q < p by omega) rx
      obtain ⟨A1, hA1⟩ : ∃ A1, A1 = addAt p A q (rdI a q * x) := ⟨_, rfl⟩
      have f1 : fine p A1 := by rw [hA1]; exact addAt_fine hp fA _ _
      have l1 : A1.length = r := by rw [hA1, addAt_len, lA]
      have s1 : A.set q ((rdI A q + rdI a q * x) % p) = A1 := hA1.symm
      have d1 := run_mod p (rdI A q + rdI a q * x) hp
      have q1 := fA q
      have v1 : IntKind.i64.wrap (rdI a q * x) = rdI a q * x := IntWalk.i64_in _ (by omega)
      have v2 : IntKind.i64.wrap (rdI A q + rdI a q * x) = rdI A q + rdI a q * x := IntWalk.i64_in _ (by omega)
      obtain ⟨A2, hA2⟩ : ∃ A2, A2 = (if q + 1 < r then addAt p A1 (q + 1) x else A1) := ⟨_, rfl⟩
      have f2 : fine p A2 := by
        rw [hA2]; split
        · exact addAt_fine hp f1 _ _
        · exact f1
      have l2 : A2.length = r := by rw [hA2]; split <;> simp [addAt_len, l1]
      have q2 := f1 (q + 1)
      have d2 := run_mod p (rdI A1 (q + 1) + x) hp
      have v3 : IntKind.i64.wrap (rdI A1 (q + 1) + x) = rdI A1 (q + 1) + x := IntWalk.i64_in _ (by omega)
      have q3 := f2 (q - 1)
      have d3 := run_mod p (rdI A2 (q - 1) + rdI b q * x) hp
      have v4 : IntKind.i64.wrap (rdI b q * x) = rdI b q * x := IntWalk.i64_in _ (by omega)
      have v5 : IntKind.i64.wrap (rdI A2 (q - 1) + rdI b q * x) = rdI A2 (q - 1) + rdI b q * x := IntWalk.i64_in _ (by omega)
      have eS : spJTo p a b r now (q + 1) = if 0 < q then addAt p A2 (q - 1) (rdI b q * x) else A2 := by
        rw [eA]; unfold spJ; rw [← hA1]; simp only; rw [← hA2]
      have fin : ∀ st'' : St, st''.fr 3 = .ptr 24 0 0 → st''.fr 7 = .int .i64 p → st''.fr 8 = .int .i64 r → st''.fr 9 = .sl idn 0 0 r → st''.fr 16 = .int .i64 n → st''.fr 17 = .int .i64 t → st''.fr 21 = .sl idm 0 0 r → st''.fr 22 = .int .i64 r → st''.fr 23 = .int .i64 ((q + 1 : Nat) : Int) →
          st''.H 24 = some ⟨0, 1, 1, [.int .i64 p, (V.list (List.length (a)) (List.map (V.int .i64) (a))), (V.list (List.length (b)) (List.map (V.int .i64) (b)))]⟩ → st''.H idm = some ⟨0, 2, 1, now.map (V.int .i64)⟩ → st''.H idn = some ⟨0, 2, 1, (if 0 < q then addAt p A2 (q - 1) (rdI b q * x) else A2).map (V.int .i64)⟩ → st'.nx ≤ st''.nx → st''.H 8 = some ⟨0, 2, 1, s.map (V.int .i64)⟩ → WL E0 false _ _ st'' := fun st'' a1 a2 a3 a4 a5 a6 a7 a8 a9 a10 a11 a12 a13 a14 =>
        next' st'' ⟨idn, a1, a2, a3, a4, a5, a6, a7, a8, a9, a10, a11, by rw [eS]; exact a12, by omega, by omega, hg14, hg15, a14⟩
      generalize hz : ((q + 1 : Nat) : Int) = z at *
      have hz1 : z.toNat = q + 1 := by omega
      have hz0 : 0 ≤ z := by omega
      by_cases b1 : q + 1 < r
      · have b1' : z < (r : Int) := by omega
        have s2 : A1.set (q + 1) ((rdI A1 (q + 1) + x) % p) = A2 := by rw [hA2, if_pos b1]; rfl
        by_cases b0 : 0 < q
        · have s3 : A2.set (q - 1) ((rdI A2 (q - 1) + rdI b q * x) % p) = (if 0 < q then addAt p A2 (q - 1) (rdI b q * x) else A2) := by rw [if_pos b0]; rfl
          have wm : IntKind.i64.wrap ((q : Int) - 1) = ((q - 1 : Nat) : Int) := by rw [IntWalk.i64_in _ (by omega)]; omega
          have e1 : q - 1 < r := by omega
          have eqr : q ≤ r := by omega
          have e1' : ((q - 1 : Nat) : Int) < (r : Int) := by omega
          generalize (if 0 < q then addAt p A2 (q - 1) (rdI b q * x) else A2) = A3 at *
          simp [go_sem, -map_replicate, -map_set, -map_append, -map_reverse, -map_take, -map_drop, -map_tail, -any_map, -all_map, -mapM_map, -map_map, slL, szI, ldI, zI, undL, apL, setI, rdI_get, Nat.add_one_le_iff, fillV, zeros1, zeros0, appendD, segV, lvO, goneOf, sliceD, bound, Nat.add_assoc, szL, ldL, setCs0, setCs1, setCs2, setCsA2, setCsA3, ldM, fM0, fM1, szM, zM, plM0, plM1, agM, paM, ldJ, fJ0, fJ1, fJ2, szJ, zJ, plJ0, plJ1, plJ2, agJ, paJ, hg0, hg1, hg2, hg3, hg4, hg5, hg6, hg7, hg8, hg9, hg10, hg11, hg16, hq, hqn, hqa, hqb, za, zb, wq, lA, l1, l2, d1, d2, d3, v1, v2, v3, v4, v5, s1, s2, s3, i1, i2, i3, i4, hx, hz1, hz0, b1, b1', b0, wm, e1, e1', eqr]
          repeat refine ⟨by kernel_rfl, (by obtain ⟨k, rfl⟩ : ∃ k, idn = k + 25 := ⟨idn - 25, by omega⟩; kernel_rfl), ?_⟩
          exact fin _ (by simp [upd, hg0]) (by simp [upd, hg1]) (by simp [upd, hg2]) (by simp [upd, hg3]) (by simp [upd, hg4]) (by simp [upd, hg5]) (by simp [upd, hg6]) (by simp [upd, hg7]) (by simp [upd]) (by simp [upd, hg9, i2]) (by simp [upd, hg10, hg14]) (by simp [upd, i1]) (by simp <;> omega) (by simp [upd, hg16, i4])
        · have eN : (if 0 < q then addAt p A2 (q - 1) (rdI b q * x) else A2) = A2 := if_neg b0
          rw [eN] at fin
          have b0' : q = 0 := by omega
          simp [go_sem, -map_replicate, -map_set, -map_append, -map_reverse, -map_take, -map_drop, -map_tail, -any_map, -all_map, -mapM_map, -map_map, slL, szI, ldI, zI, undL, apL, setI, rdI_get, Nat.add_one_le_iff, fillV, zeros1, zeros0, appendD, segV, lvO, goneOf, sliceD, bound, Nat.add_assoc, szL, ldL, setCs0, setCs1, setCs2, setCsA2, setCsA3, ldM, fM0, fM1, szM, zM, plM0, plM1, agM, paM, ldJ, fJ0, fJ1, fJ2, szJ, zJ, plJ0, plJ1, plJ2, agJ, paJ, hg0, hg1, hg2, hg3, hg4, hg5, hg6, hg7, hg8, hg9, hg10, hg11, hg16, hq, hqn, hqa, hqb, za, zb, wq, lA, l1, l2, d1, d2, v1, v2, v3, s1, s2, i1, i2, i3, i4, hx, hz1, hz0, b1, b1', b0]
          repeat refine ⟨by kernel_rfl, (by obtain ⟨k, rfl⟩ : ∃ k, idn = k + 25 := ⟨idn - 25, by omega⟩; kernel_rfl), ?_⟩
          exact fin _ (by simp [upd, hg0]) (by simp [upd, hg1]) (by simp [upd, hg2]) (by simp [upd, hg3]) (by simp [upd, hg4]) (by simp [upd, hg5]) (by simp [upd, hg6]) (by simp [upd, hg7]) (by simp [upd]) (by simp [upd, hg9, i2]) (by simp [upd, hg10, hg14]) (by simp [upd, i1]) (by simp <;> omega) (by simp [upd, hg16, i4])
      · have b1' : ¬ z < (r : Int) := by omega
        have eB : A2 = A1 := by rw [hA2, if_neg b1]
        subst eB
        by_cases b0 : 0 < q
        · have s3 : A2.set (q - 1) ((rdI A2 (q - 1) + rdI b q * x) % p) = (if 0 < q then addAt p A2 (q - 1) (rdI b q * x) else A2) := by rw [if_pos b0]; rfl
          have wm : IntKind.i64.wrap ((q : Int) - 1) = ((q - 1 : Nat) : Int) := by rw [IntWalk.i64_in _ (by omega)]; omega
          have e1 : q - 1 < r := by omega
          have eqr : q ≤ r := by omega
          have e1' : ((q - 1 : Nat) : Int) < (r : Int) := by omega
          generalize (if 0 < q then addAt p A2 (q - 1) (rdI b q * x) else A2) = A3 at *
          simp [go_sem, -map_replicate, -map_set, -map_append, -map_reverse, -map_take, -map_drop, -map_tail, -any_map, -all_map, -mapM_map, -map_map, slL, szI, ldI, zI, undL, apL, setI, rdI_get, Nat.add_one_le_iff, fillV, zeros1, zeros0, appendD, segV, lvO, goneOf, sliceD, bound, Nat.add_assoc, szL, ldL, setCs0, setCs1, setCs2, setCsA2, setCsA3, ldM, fM0, fM1, szM, zM, plM0, plM1, agM, paM, ldJ, fJ0, fJ1, fJ2, szJ, zJ, plJ0, plJ1, plJ2, agJ, paJ, hg0, hg1, hg2, hg3, hg4, hg5, hg6, hg7, hg8, hg9, hg10, hg11, hg16, hq, hqn, hqa, hqb, za, zb, wq, lA, l2, d1, d3, v1, v2, v4, v5, s1, s3, i1, i2, i3, i4, hx, hz1, hz0, b1, b1', b0, wm, e1, e1', eqr]
          repeat refine ⟨by kernel_rfl, (by obtain ⟨k, rfl⟩ : ∃ k, idn = k + 25 := ⟨idn - 25, by omega⟩; kernel_rfl), ?_⟩
          exact fin _ (by simp [upd, hg0]) (by simp [upd, hg1]) (by simp [upd, hg2]) (by simp [upd, hg3]) (by simp [upd, hg4]) (by simp [upd, hg5]) (by simp [upd, hg6]) (by simp [upd, hg7]) (by simp [upd]) (by simp [upd, hg9, i2]) (by simp [upd, hg10, hg14]) (by simp [upd, i1]) (by simp <;> omega) (by simp [upd, hg16, i4])
        · have eN : (if 0 < q then addAt p A2 (q - 1) (rdI b q * x) else A2) = A2 := if_neg b0
          rw [eN] at fin
          simp [go_sem, -map_replicate, -map_set, -map_append, -map_reverse, -map_take, -map_drop, -map_tail, -any_map, -all_map, -mapM_map, -map_map, slL, szI, ldI, zI, undL, apL, setI, rdI_get, Nat.add_one_le_iff, fillV, zeros1, zeros0, appendD, segV, lvO, goneOf, sliceD, bound, Nat.add_assoc, szL, ldL, setCs0, setCs1, setCs2, setCsA2, setCsA3, ldM, fM0, fM1, szM, zM, plM0, plM1, agM, paM, ldJ, fJ0, fJ1, fJ2, szJ, zJ, plJ0, plJ1, plJ2, agJ, paJ, hg0, hg1, hg2, hg3, hg4, hg5, hg6, hg7, hg8, hg9, hg10, hg11, hg16, hq, hqn, hqa, hqb, za, zb, wq, lA, l2, d1, v1, v2, s1, i1, i2, i3, i4, hx, hz1, hz0, b1, b1', b0]
          repeat refine ⟨by kernel_rfl, (by obtain ⟨k, rfl⟩ : ∃ k, idn = k + 25 := ⟨idn - 25, by omega⟩; kernel_rfl), ?_⟩
          exact fin _ (by simp [upd, hg0]) (by simp [upd, hg1]) (by simp [upd, hg2]) (by simp [upd, hg3]) (by simp [upd, hg4]) (by simp [upd, hg5]) (by simp [upd, hg6]) (by simp [upd, hg7]) (by simp [upd]) (by simp [upd, hg9, i2]) (by simp [upd, hg10, hg14]) (by simp [upd, i1]) (by simp <;> omega) (by simp [upd, hg16, i4])
    · rintro st' ⟨idn, hg0, hg1, hg2, hg3, hg4, hg5, hg6, hg7, hg8, hg9, hg10, hg11, hg12, hg13, hg14, hg15, hg16⟩
      simp [go_sem, -map_replicate, -map_set, -map_append, -map_reverse, -map_take, -map_drop, -map_tail, -any_map, -all_map, -mapM_map, -map_map, slL, szI, ldI, zI, undL, apL, setI, rdI_get, Nat.add_one_le_iff, fillV, zeros1, zeros0, appendD, segV, lvO, goneOf, sliceD, bound, Nat.add_assoc, szL, ldL, setCs0, setCs1, setCs2, setCsA2, setCsA3, ldM, fM0, fM1, szM, zM, plM0, plM1, agM, paM, ldJ, fJ0, fJ1, fJ2, szJ, zJ, plJ0, plJ1, plJ2, agJ, paJ, hg0, hg1, hg2, hg3, hg4, hg5, hg6, hg7, hg8, hg9, hg10, hg11, hg16, wt]
      refine next _ ⟨idn, ?_⟩
      have ew : wkJ p a b r s (t + 1) = spJTo p a b r now r := by rw [wkJ, hnow]
      have i4 : ¬ idn = 8 := by omega
      have i5 : ¬ idn = 24 := by omega
      simp [upd, hg0, hg1, hg2, hg3, hg4, hg5, hg6, hg7, hg8, hg9, hg10, hg11, hg16, ew, i4, i5]
      omega
    · have m8 := ne_new (show 8 < st.nx by omega)
      refine ⟨_, ?_, ?_, ?_, rfl, ?_, ?_, rfl, rfl, rfl, ?_, ?_, ?_, ?_, ?_, ?_, ?_, ?_⟩
      all_goals simp [upd, row, he0, he1, he2, he3, he4, he5, he6, he7, he11, n1, n2, m8, lm, spJTo]
      all_goals trace_state
      all_goals omega
  · rintro st ⟨idm, he0, he1, he2, he3, he4, he5, he6, he7, he8, he9, he10, he11, he12⟩
    have lm := wkJ_len p a b r s hsr n
    simp [go_sem, -map_replicate, -map_set, -map_append, -map_reverse, -map_take, -map_drop, -map_tail, -any_map, -all_map, -mapM_map, -map_map, slL, szI, ldI, zI, undL, apL, setI, rdI_get, Nat.add_one_le_iff, fillV, zeros1, zeros0, appendD, segV, lvO, goneOf, sliceD, bound, Nat.add_assoc, szL, ldL, setCs0, setCs1, setCs2, setCsA2, setCsA3, ldM, fM0, fM1, szM, zM, plM0, plM1, agM, paM, ldJ, fJ0, fJ1, fJ2, szJ, zJ, plJ0, plJ1, plJ2, agJ, paJ, he0, he1, he2, he3, he4, he5, he6, he7, he11]
    have hlen : s.length = r := hsr
    by_cases h0 : n = 0
    · have := he12.1 h0
      subst this
      subst h0
      simp [mvcgen_simp, -map_replicate, -map_set, -map_append, -map_reverse, -map_take, -map_drop, -map_tail, -any_map, -all_map, -mapM_map, -map_map, Try.f249, he0, he1, he2, he3, he4, he5, he6, he7, he11, lm]
    · have i6 : ¬ idm = 8 := he12.2 (by omega)
      have i7 : ¬ 8 = idm := fun e => i6 e.symm
      simp [mvcgen_simp, -map_replicate, -map_set, -map_append, -map_reverse, -map_take, -map_drop, -map_tail, -any_map, -all_map, -mapM_map, -map_map, Try.f249, he0, he1, he2, he3, he4, he5, he6, he7, he11, lm, h0, i6, i7, hsr]
  · refine ⟨8, rfl, rfl, rfl, rfl, rfl, rfl, rfl, rfl, by simp, by simp, by simp, rfl, by simp, by simp⟩
theorem run_l09Sums (p : Int) (a b : List Int) (n i r : Nat) (h : jacB p a b = true) (hi : i < r) (hr : r ≤ a.length) (hn : n ≤ 1000000) :
    runv E0 177 [(V.agg [V.int .i64 (p), (V.list (List.length (a)) (List.map (V.int .i64) (a))), (V.list (List.length (b)) (List.map (V.int .i64) (b)))]), .int .i64 (n : Int), .int .i64 (i : Int), .int .i64 (r : Int)] = some ⟨true, (V.uniq 1 (List.length (wkJ p a b r ((List.replicate r 0).set i 1) n)) (List.map (V.int .i64) (wkJ p a b r ((List.replicate r 0).set i 1) n))), [.agg [.undef, .undef, .undef], .undef, .undef, .undef]⟩ := by
  have cdk : codeOk Try.f177.ntmps (Try.f177.body.getD .skip) = true := by kernel_rfl
  refine run_of_WL (fn := Try.f177) rfl Try.func177 rfl ⟨by simp [Try.ntmps177], by simp [wideA, ints], cdk, by simp [Try.f177]⟩ ?_
  have hp := jacB_prime h
  have hl := jacB_len h
  have hpn : ¬ p = 0 := by omega
  have one : (1 : Int).tmod p = 1 := by rw [Int.tmod_eq_emod_of_nonneg (by omega), Int.emod_eq_of_lt (by omega) (by omega)]
  have c1 : r * 8 ≤ 140737488355328 := by omega
  have c2 : (r : Int) ≤ 9223372036854775807 := by omega
  have f0 : fine p ((List.replicate r 0).set i 1) := by
    intro j
    by_cases hj : j < r
    · rw [rdI_set (by simpa using hj)]
      split
      · omega
      · have : rdI (List.replicate r (0 : Int)) j = 0 := by
          simp [rdI, List.getD_eq_getElem?_getD, List.getElem?_replicate]; split <;> rfl
        rw [this]; omega
    · have : rdI ((List.replicate r (0 : Int)).set i 1) j = 0 := by simp [rdI, hj]
      rw [this]; omega
  simp [go_sem, -map_replicate, -map_set, -map_append, -map_reverse, -map_take, -map_drop, -map_tail, -any_map, -all_map, -mapM_map, -map_map, slL, szI, ldI, zI, undL, apL, setI, rdI_get, Nat.add_one_le_iff, fillV, zeros1, zeros0, appendD, segV, lvO, goneOf, sliceD, bound, Nat.add_assoc, szL, ldL, setCs0, setCs1, setCs2, setCsA2, setCsA3, ldM, fM0, fM1, szM, zM, plM0, plM1, agM, paM, ldJ, fJ0, fJ1, fJ2, szJ, zJ, plJ0, plJ1, plJ2, agJ, paJ, hi, hpn, one, c1, c2, zerosI]
  rw [WL_loop]
  refine WL_count (I := fun t st => ∃ idm, st.fr 1 = .int .i64 ((n - t : Nat) : Int) ∧ st.fr 3 = .int .i64 r ∧ st.fr 4 = .ptr 32 0 0 ∧ st.fr 9 = .int .i64 p ∧ st.fr 10 = .sl idm 0 0 r ∧ st.H 32 = some (⟨0, 1, 1, [.int .i64 p, (V.list (List.length (a)) (List.map (V.int .i64) (a))), (V.list (List.length (b)) (List.map (V.int .i64) (b)))]⟩) ∧ st.H idm = some (⟨0, 2, 1, (wkJ p a b r ((List.replicate r 0).set i 1) t).map (V.int .i64)⟩) ∧ idm < st.nx ∧ 32 < idm) n ?_ ?_ 0 _ (by omega) ?_
  · rintro t st ht ⟨idm, he0, he1, he2, he3, he4, he5, he6, he7, he8⟩ next
    have lm := wkJ_len p a b r ((List.replicate r 0).set i 1) (by simp) t
    have fm := wkJ_fine hp a b r ((List.replicate r 0).set i 1) f0 t
    have wt : IntKind.i64.wrap (((n - t : Nat) : Int) - 1) = ((n - (t + 1) : Nat) : Int) := by rw [IntWalk.i64_in _ (by omega)]; omega
    have ct : (0 : Int) < ((n - t : Nat) : Int) := by omega
    have n1 := ne_new he7
    have n2 := ne_new (show 32 < st.nx by omega)
    have enow : wkJ p a b r ((List.replicate r 0).set i 1) (t + 1) = spJTo p a b r (wkJ p a b r ((List.replicate r 0).set i 1) t) r := rfl
    generalize wkJ p a b r ((List.replicate r 0).set i 1) t = now at *
    generalize hmz : ((n - t : Nat) : Int) = mz at *
    simp [go_sem, -map_replicate, -map_set, -map_append, -map_reverse, -map_take, -map_drop, -map_tail, -any_map, -all_map, -mapM_map, -map_map, slL, szI, ldI, zI, undL, apL, setI, rdI_get, Nat.add_one_le_iff, fillV, zeros1, zeros0, appendD, segV, lvO, goneOf, sliceD, bound, Nat.add_assoc, szL, ldL, setCs0, setCs1, setCs2, setCsA2, setCsA3, ldM, fM0, fM1, szM, zM, plM0, plM1, agM, paM, ldJ, fJ0, fJ1, fJ2, szJ, zJ, plJ0, plJ1, plJ2, agJ, paJ, he0, he1, he2, he3, he4, he5, he6, ct, c1, c2, zerosI, n1, n2]
    rw [WL_loop]
    refine WL_count (I := fun q st' => ∃ idn, st'.fr 1 = .int .i64 mz ∧ st'.fr 3 = .int .i64 r ∧ st'.fr 4 = .ptr 32 0 0 ∧ st'.fr 9 = .int .i64 p ∧ st'.fr 10 = .sl idm 0 0 r ∧ st'.fr 11 = .sl idn 0 0 r ∧ st'.fr 12 = .int .i64 q ∧ st'.H 32 = some (⟨0, 1, 1, [.int .i64 p, (V.list (List.length (a)) (List.map (V.int .i64) (a))), (V.list (List.length (b)) (List.map (V.int .i64) (b)))]⟩) ∧ st'.H idm = some (⟨0, 2, 1, now.map (V.int .i64)⟩) ∧ st'.H idn = some (⟨0, 2, 1, (spJTo p a b r now q).map (V.int .i64)⟩) ∧ idn < st'.nx ∧ 32 < idn ∧ idm ≠ idn) r ?_ ?_ 0 _ (by omega) ?_
    · rintro q st' hq ⟨idn, hg0, hg1, hg2, hg3, hg4, hg5, hg6, hg7, hg8, hg9, hg10, hg11, hg12⟩ next'
      have lA := spJTo_len p a b r now q
      have fA := spJTo_fine hp a b r now q
      have eA : spJTo p a b r now (q + 1) = spJ p a b r q (rdI now q) (spJTo p a b r now q) := rfl
      have rx := fm q
      have ra := jacB_a h (show q < a.length by omega)
      have rb := jacB_b h (show q < a.length by omega)
      have i1 : ¬ idn = idm := fun e => hg12 e.symm
      have i2 : ¬ 32 = idn := by omega
      have i3 : ¬ 32 = idm := by omega
      have hqn : q < now.length := by omega
      have hqa : q < a.length := by omega
      have hqb : q < b.length := by omega
      have za : (q : Int) < a.length := by omega
      have zb : (q : Int) < b.length := by omega
      have wq : IntKind.i64.wrap ((q : Int) + 1) = ((q + 1 : Nat) : Int) := by rw [IntWalk.i64_in _ (by omega)]; omega
      generalize hA : spJTo p a b r now q = A at *
      generalize hx : rdI now q = x at *
      have m1 := mul_small hp rx ra
      have m2 := mul_small hp rx (show 0 ≤ rdI b q ∧ rdI b q < p by omega)
      obtain ⟨A1, hA1⟩ : ∃ A1, A1 = addAt p A q (rdI a q * x) := ⟨_, rfl⟩
      have f1 : fine p A1 := by rw [hA1]; exact addAt_fine hp fA _ _
      have l1 : A1.length = r := by rw [hA1, addAt_len, lA]
      have q1 := fA q
      have s1 : A.set q ((rdI A q + x * rdI a q).tmod p) = A1 := by rw [hA1, Int.tmod_eq_emod_of_nonneg (by omega), Int.mul_comm x]; rfl
      have v1 : IntKind.i64.wrap (x * rdI a q) = x * rdI a q := IntWalk.i64_in _ (by omega)
      have v2 : IntKind.i64.wrap (rdI A q + x * rdI a q) = rdI A q + x * rdI a q := IntWalk.i64_in _ (by omega)
      obtain ⟨A2, hA2⟩ : ∃ A2, A2 = (if q + 1 < r then addAt p A1 (q + 1) x else A1) := ⟨_, rfl⟩
      have f2 : fine p A2 := by
        rw [hA2]; split
        · exact addAt_fine hp f1 _ _
        · exact f1
      have l2 : A2.length = r := by rw [hA2]; split <;> simp [addAt_len, l1]
      have q2 := f1 (q + 1)
      have v3 : IntKind.i64.wrap (rdI A1 (q + 1) + x) = rdI A1 (q + 1) + x := IntWalk.i64_in _ (by omega)
      have q3 := f2 (q - 1)
      have v4 : IntKind.i64.wrap (x * rdI b q) = x * rdI b q := IntWalk.i64_in _ (by omega)
      have v5 : IntKind.i64.wrap (rdI A2 (q - 1) + x * rdI b q) = rdI A2 (q - 1) + x * rdI b q := IntWalk.i64_in _ (by omega)
      have eS : spJTo p a b r now (q + 1) = if 0 < q then addAt p A2 (q - 1) (rdI b q * x) else A2 := by
        rw [eA]; unfold spJ; rw [← hA1]; simp only; rw [← hA2]
      have fin : ∀ st'' : St, st''.fr 1 = .int .i64 mz → st''.fr 3 = .int .i64 r → st''.fr 4 = .ptr 32 0 0 → st''.fr 9 = .int .i64 p → st''.fr 10 = .sl idm 0 0 r → st''.fr 11 = .sl idn 0 0 r → st''.fr 12 = .int .i64 ((q + 1 : Nat) : Int) →
          st''.H 32 = some ⟨0, 1, 1, [.int .i64 p, (V.list (List.length (a)) (List.map (V.int .i64) (a))), (V.list (List.length (b)) (List.map (V.int .i64) (b)))]⟩ → st''.H idm = some ⟨0, 2, 1, now.map (V.int .i64)⟩ → st''.H idn = some ⟨0, 2, 1, (if 0 < q then addAt p A2 (q - 1) (rdI b q * x) else A2).map (V.int .i64)⟩ → st'.nx ≤ st''.nx → WL E0 false _ _ st'' := fun st'' a1 a2 a3 a4 a5 a6 a7 a8 a9 a10 a11 =>
        next' st'' ⟨idn, a1, a2, a3, a4, a5, a6, a7, a8, a9, by rw [eS]; exact a10, by omega, hg11, hg12⟩
      generalize hz : ((q + 1 : Nat) : Int) = z at *
      have hz1 : z.toNat = q + 1 := by omega
      have hz0 : 0 ≤ z := by omega
      by_cases b1 : q + 1 < r
      · have b1' : z < (r : Int) := by omega
        have s2 : A1.set (q + 1) ((rdI A1 (q + 1) + x).tmod p) = A2 := by rw [hA2, if_pos b1, Int.tmod_eq_emod_of_nonneg (by omega)]; rfl
        by_cases b0 : 0 < q
        · have s3 : A2.set (q - 1) ((rdI A2 (q - 1) + x * rdI b q).tmod p) = (if 0 < q then addAt p A2 (q - 1) (rdI b q * x) else A2) := by rw [if_pos b0, Int.tmod_eq_emod_of_nonneg (by omega), Int.mul_comm x]; rfl
          have wm : IntKind.i64.wrap ((q : Int) - 1) = ((q - 1 : Nat) : Int) := by rw [IntWalk.i64_in _ (by omega)]; omega
          have e1 : q - 1 < r := by omega
          have eqr : q ≤ r := by omega
          have e1' : ((q - 1 : Nat) : Int) < (r : Int) := by omega
          generalize (if 0 < q then addAt p A2 (q - 1) (rdI b q * x) else A2) = A3 at *
          simp [go_sem, -map_replicate, -map_set, -map_append, -map_reverse, -map_take, -map_drop, -map_tail, -any_map, -all_map, -mapM_map, -map_map, slL, szI, ldI, zI, undL, apL, setI, rdI_get, Nat.add_one_le_iff, fillV, zeros1, zeros0, appendD, segV, lvO, goneOf, sliceD, bound, Nat.add_assoc, szL, ldL, setCs0, setCs1, setCs2, setCsA2, setCsA3, ldM, fM0, fM1, szM, zM, plM0, plM1, agM, paM, ldJ, fJ0, fJ1, fJ2, szJ, zJ, plJ0, plJ1, plJ2, agJ, paJ, hg0, hg1, hg2, hg3, hg4, hg5, hg6, hg7, hg8, hg9, hpn, hq, hqn, hqa, hqb, za, zb, wq, lA, l1, l2, v1, v2, v3, v4, v5, s1, s2, s3, i1, i2, i3, hg12, hx, hz1, hz0, b1, b1', b0, wm, e1, e1', eqr]
          repeat refine ⟨by kernel_rfl, (by obtain ⟨k, rfl⟩ : ∃ k, idn = k + 33 := ⟨idn - 33, by omega⟩; kernel_rfl), ?_⟩
          exact fin _ (by simp [upd, hg0]) (by simp [upd, hg1]) (by simp [upd, hg2]) (by simp [upd, hg3]) (by simp [upd, hg4]) (by simp [upd, hg5]) (by simp [upd]) (by simp [upd, hg7, i2]) (by simp [upd, hg8, hg12]) (by simp [upd, i1]) (by simp <;> omega)
        · have eN : (if 0 < q then addAt p A2 (q - 1) (rdI b q * x) else A2) = A2 := if_neg b0
          rw [eN] at fin
          simp [go_sem, -map_replicate, -map_set, -map_append, -map_reverse, -map_take, -map_drop, -map_tail, -any_map, -all_map, -mapM_map, -map_map, slL, szI, ldI, zI, undL, apL, setI, rdI_get, Nat.add_one_le_iff, fillV, zeros1, zeros0, appendD, segV, lvO, goneOf, sliceD, bound, Nat.add_assoc, szL, ldL, setCs0, setCs1, setCs2, setCsA2, setCsA3, ldM, fM0, fM1, szM, zM, plM0, plM1, agM, paM, ldJ, fJ0, fJ1, fJ2, szJ, zJ, plJ0, plJ1, plJ2, agJ, paJ, hg0, hg1, hg2, hg3, hg4, hg5, hg6, hg7, hg8, hg9, hpn, hq, hqn, hqa, hqb, za, zb, wq, lA, l1, l2, v1, v2, v3, s1, s2, i1, i2, i3, hg12, hx, hz1, hz0, b1, b1', b0]
          repeat refine ⟨by kernel_rfl, (by obtain ⟨k, rfl⟩ : ∃ k, idn = k + 33 := ⟨idn - 33, by omega⟩; kernel_rfl), ?_⟩
          exact fin _ (by simp [upd, hg0]) (by simp [upd, hg1]) (by simp [upd, hg2]) (by simp [upd, hg3]) (by simp [upd, hg4]) (by simp [upd, hg5]) (by simp [upd]) (by simp [upd, hg7, i2]) (by simp [upd, hg8, hg12]) (by simp [upd, i1]) (by simp <;> omega)
      · have b1' : ¬ z < (r : Int) := by omega
        have eB : A2 = A1 := by rw [hA2, if_neg b1]
        subst eB
        by_cases b0 : 0 < q
        · have s3 : A2.set (q - 1) ((rdI A2 (q - 1) + x * rdI b q).tmod p) = (if 0 < q then addAt p A2 (q - 1) (rdI b q * x) else A2) := by rw [if_pos b0, Int.tmod_eq_emod_of_nonneg (by omega), Int.mul_comm x]; rfl
          have wm : IntKind.i64.wrap ((q : Int) - 1) = ((q - 1 : Nat) : Int) := by rw [IntWalk.i64_in _ (by omega)]; omega
          have e1 : q - 1 < r := by omega
          have eqr : q ≤ r := by omega
          have e1' : ((q - 1 : Nat) : Int) < (r : Int) := by omega
          generalize (if 0 < q then addAt p A2 (q - 1) (rdI b q * x) else A2) = A3 at *
          simp [go_sem, -map_replicate, -map_set, -map_append, -map_reverse, -map_take, -map_drop, -map_tail, -any_map, -all_map, -mapM_map, -map_map, slL, szI, ldI, zI, undL, apL, setI, rdI_get, Nat.add_one_le_iff, fillV, zeros1, zeros0, appendD, segV, lvO, goneOf, sliceD, bound, Nat.add_assoc, szL, ldL, setCs0, setCs1, setCs2, setCsA2, setCsA3, ldM, fM0, fM1, szM, zM, plM0, plM1, agM, paM, ldJ, fJ0, fJ1, fJ2, szJ, zJ, plJ0, plJ1, plJ2, agJ, paJ, hg0, hg1, hg2, hg3, hg4, hg5, hg6, hg7, hg8, hg9, hpn, hq, hqn, hqa, hqb, za, zb, wq, lA, l2, v1, v2, v4, v5, s1, s3, i1, i2, i3, hg12, hx, hz1, hz0, b1, b1', b0, wm, e1, e1', eqr]
          repeat refine ⟨by kernel_rfl, (by obtain ⟨k, rfl⟩ : ∃ k, idn = k + 33 := ⟨idn - 33, by omega⟩; kernel_rfl), ?_⟩
          exact fin _ (by simp [upd, hg0]) (by simp [upd, hg1]) (by simp [upd, hg2]) (by simp [upd, hg3]) (by simp [upd, hg4]) (by simp [upd, hg5]) (by simp [upd]) (by simp [upd, hg7, i2]) (by simp [upd, hg8, hg12]) (by simp [upd, i1]) (by simp <;> omega)
        · have eN : (if 0 < q then addAt p A2 (q - 1) (rdI b q * x) else A2) = A2 := if_neg b0
          rw [eN] at fin
          simp [go_sem, -map_replicate, -map_set, -map_append, -map_reverse, -map_take, -map_drop, -map_tail, -any_map, -all_map, -mapM_map, -map_map, slL, szI, ldI, zI, undL, apL, setI, rdI_get, Nat.add_one_le_iff, fillV, zeros1, zeros0, appendD, segV, lvO, goneOf, sliceD, bound, Nat.add_assoc, szL, ldL, setCs0, setCs1, setCs2, setCsA2, setCsA3, ldM, fM0, fM1, szM, zM, plM0, plM1, agM, paM, ldJ, fJ0, fJ1, fJ2, szJ, zJ, plJ0, plJ1, plJ2, agJ, paJ, hg0, hg1, hg2, hg3, hg4, hg5, hg6, hg7, hg8, hg9, hpn, hq, hqn, hqa, hqb, za, zb, wq, lA, l2, v1, v2, s1, i1, i2, i3, hg12, hx, hz1, hz0, b1, b1', b0]
          repeat refine ⟨by kernel_rfl, (by obtain ⟨k, rfl⟩ : ∃ k, idn = k + 33 := ⟨idn - 33, by omega⟩; kernel_rfl), ?_⟩
          exact fin _ (by simp [upd, hg0]) (by simp [upd, hg1]) (by simp [upd, hg2]) (by simp [upd, hg3]) (by simp [upd, hg4]) (by simp [upd, hg5]) (by simp [upd]) (by simp [upd, hg7, i2]) (by simp [upd, hg8, hg12]) (by simp [upd, i1]) (by simp <;> omega)
    · rintro st' ⟨idn, hg0, hg1, hg2, hg3, hg4, hg5, hg6, hg7, hg8, hg9, hg10, hg11, hg12⟩
      simp [go_sem, -map_replicate, -map_set, -map_append, -map_reverse, -map_take, -map_drop, -map_tail, -any_map, -all_map, -mapM_map, -map_map, slL, szI, ldI, zI, undL, apL, setI, rdI_get, Nat.add_one_le_iff, fillV, zeros1, zeros0, appendD, segV, lvO, goneOf, sliceD, bound, Nat.add_assoc, szL, ldL, setCs0, setCs1, setCs2, setCsA2, setCsA3, ldM, fM0, fM1, szM, zM, plM0, plM1, agM, paM, ldJ, fJ0, fJ1, fJ2, szJ, zJ, plJ0, plJ1, plJ2, agJ, paJ, hg0, hg1, hg2, hg3, hg4, hg5, hg6, hg7, hg8, hg9, wt]
      refine next _ ⟨idn, ?_⟩
      simp [upd, hg0, hg1, hg2, hg3, hg4, hg5, hg6, hg7, hg8, hg9, enow]
      omega
    · have m8 := ne_new he7
      refine ⟨_, ?_, ?_, ?_, ?_, ?_, rfl, rfl, ?_, ?_, ?_, ?_, ?_, ?_⟩
      all_goals simp [upd, row, he0, he1, he2, he3, he4, he5, he6, n1, n2, lm, spJTo]
      all_goals omega
  · rintro st ⟨idm, he0, he1, he2, he3, he4, he5, he6, he7, he8⟩
    have lm := wkJ_len p a b r ((List.replicate r 0).set i 1) (by simp) n
    simp [go_sem, -map_replicate, -map_set, -map_append, -map_reverse, -map_take, -map_drop, -map_tail, -any_map, -all_map, -mapM_map, -map_map, slL, szI, ldI, zI, undL, apL, setI, rdI_get, Nat.add_one_le_iff, fillV, zeros1, zeros0, appendD, segV, lvO, goneOf, sliceD, bound, Nat.add_assoc, szL, ldL, setCs0, setCs1, setCs2, setCsA2, setCsA3, ldM, fM0, fM1, szM, zM, plM0, plM1, agM, paM, ldJ, fJ0, fJ1, fJ2, szJ, zJ, plJ0, plJ1, plJ2, agJ, paJ, he0, he1, he2, he3, he4, he5, he6]
    simp [mvcgen_simp, -map_replicate, -map_set, -map_append, -map_reverse, -map_take, -map_drop, -map_tail, -any_map, -all_map, -mapM_map, -map_map, Try.f177, he0, he1, he2, he3, he4, he5, he6, lm]
  · refine ⟨416, rfl, rfl, rfl, rfl, rfl, rfl, rfl, by simp, by simp⟩
end Go.Proofs.Ytabnganndcmcnaa.Ev
