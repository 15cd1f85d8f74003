/- TurningSums: both texts and the law. Conditions: none. -/
import Derived.Test.YtabnganndcmcnaaFnZ
set_option linter.unusedSimpArgs false
set_option linter.unusedVariables false
namespace Go.Proofs.Ytabnganndcmcnaa.Ev
open Go Go.Proofs
open List (map_replicate map_set map_append map_reverse map_take map_drop map_tail any_map all_map mapM_map map_map)
set_option maxRecDepth 4000
set_option maxHeartbeats 4000000

/-- The sums up to a height, and their differences. -/
def upToH (p : Int) (a b : List Int) (n : Nat) : Nat → Int
  | 0 => 0
  | h + 1 => rdI (fromJ p a b (h + 1) 0 n) 0
def turnH (p : Int) (a b : List Int) (n h : Nat) : Int := (upToH p a b n (h + 1) - upToH p a b n h) % p
def turns (p : Int) (a b : List Int) (n : Int) : List Int × Int :=
  if jacB p a b then (if decide (0 ≤ n) && decide (n ≤ 24) then (tab a.length (turnH p a b n.toNat), 0) else ([], 2)) else ([], 1)
theorem turns_len (p : Int) (a b : List Int) (n : Int) (ha : a.length ≤ 1048576) (hb : b.length ≤ 1048576) : (turns p a b n).1.length ≤ 1048576 := by
  unfold turns; (repeat' split) <;> simp [tab_len] <;> omega
theorem fromJ_fine {p : Int} (hp : 2 ≤ p ∧ p ≤ 10007) (a b : List Int) (r i n : Nat) : fine p (fromJ p a b r i n) := wkJ_fine hp a b r _ (start_fine hp r i) n
theorem upToH_range {p : Int} (hp : 2 ≤ p ∧ p ≤ 10007) (a b : List Int) (n : Nat) : ∀ h, 0 ≤ upToH p a b n h ∧ upToH p a b n h < p
  | 0 => by show 0 ≤ (0 : Int) ∧ (0 : Int) < p; omega
  | h + 1 => fromJ_fine hp a b _ _ _ 0

theorem run_specTurningSums (p : Int) (a b : List Int) (n : Int) (ha : a.length ≤ 1048576) (hb : b.length ≤ 1048576) :
    runv E0 66 [(V.agg [V.int .i64 (p), (V.list (List.length (a)) (List.map (V.int .i64) (a))), (V.list (List.length (b)) (List.map (V.int .i64) (b)))]), .int .i64 n] = some ⟨true, .tup [(V.uniq 1 (List.length ((turns p a b n).1)) (List.map (V.int .i64) ((turns p a b n).1))), .int .i64 (turns p a b n).2], [.agg [.undef, .undef, .undef], .undef]⟩ := by
  have cdk : codeOk Try.f66.ntmps (Try.f66.body.getD .skip) = true := by kernel_rfl
  refine run_of_WL (fn := Try.f66) rfl Try.func66 rfl ⟨by simp [Try.ntmps66], by simp [wideA, ints], cdk, by simp [Try.f66]⟩ ?_
  have h1 : runv E0 173 [(V.agg [V.int .i64 (p), (V.list (List.length (a)) (List.map (V.int .i64) (a))), (V.list (List.length (b)) (List.map (V.int .i64) (b)))]), .int .i64 n, .list 0 []] = some ⟨true, .int .i64 (if jacB p a b then (if (decide (0 ≤ n) && decide (n ≤ 24)) then 0 else 2) else 1), [.agg [.undef, .undef, .undef], .undef, .undef]⟩ := by
    have := run_l09Code p a b [] n ha hb (by simp)
    simpa using this
  cases e : jacB p a b with
  | false =>
    rw [e] at h1
    simp only [Bool.false_eq_true, if_false] at h1
    simp [go_sem, -map_replicate, -map_set, -map_append, -map_reverse, -map_take, -map_drop, -map_tail, -any_map, -all_map, -mapM_map, -map_map, slL, szI, ldI, zI, undL, apL, setI, rdI_get, Nat.add_one_le_iff, fillV, zeros1, zeros0, appendD, segV, lvO, goneOf, sliceD, bound, Nat.add_assoc, szL, ldL, setCs0, setCs1, setCs2, setCsA2, setCsA3, ldM, fM0, fM1, szM, zM, plM0, plM1, agM, paM, ldJ, fJ0, fJ1, fJ2, szJ, zJ, plJ0, plJ1, plJ2, agJ, paJ, h1]
    simp [mvcgen_simp, -map_replicate, -map_set, -map_append, -map_reverse, -map_take, -map_drop, -map_tail, -any_map, -all_map, -mapM_map, -map_map, Try.f66, turns, e]
  | true =>
    rw [e] at h1
    have hp := jacB_prime e
    have hl := jacB_len e
    cases e2 : (decide (0 ≤ n) && decide (n ≤ 24)) with
    | false =>
      rw [e2] at h1
      have hps : turns p a b n = ([], 2) := by simp only [turns, e, e2]; rfl
      simp only [Bool.false_eq_true, if_false, if_true] at h1
      simp [go_sem, -map_replicate, -map_set, -map_append, -map_reverse, -map_take, -map_drop, -map_tail, -any_map, -all_map, -mapM_map, -map_map, slL, szI, ldI, zI, undL, apL, setI, rdI_get, Nat.add_one_le_iff, fillV, zeros1, zeros0, appendD, segV, lvO, goneOf, sliceD, bound, Nat.add_assoc, szL, ldL, setCs0, setCs1, setCs2, setCsA2, setCsA3, ldM, fM0, fM1, szM, zM, plM0, plM1, agM, paM, ldJ, fJ0, fJ1, fJ2, szJ, zJ, plJ0, plJ1, plJ2, agJ, paJ, h1]
      simp [mvcgen_simp, -map_replicate, -map_set, -map_append, -map_reverse, -map_take, -map_drop, -map_tail, -any_map, -all_map, -mapM_map, -map_map, Try.f66, hps]
    | true =>
      rw [e2] at h1
      have hps : turns p a b n = (tab a.length (turnH p a b n.toNat), 0) := by simp only [turns, e, e2]; rfl
      simp only [if_true] at h1
      simp only [Bool.and_eq_true, decide_eq_true_eq] at e2
      obtain ⟨N, rfl⟩ : ∃ N : Nat, n = N := ⟨n.toNat, by omega⟩
      rw [Int.toNat_natCast] at hps
      simp [go_sem, -map_replicate, -map_set, -map_append, -map_reverse, -map_take, -map_drop, -map_tail, -any_map, -all_map, -mapM_map, -map_map, slL, szI, ldI, zI, undL, apL, setI, rdI_get, Nat.add_one_le_iff, fillV, zeros1, zeros0, appendD, segV, lvO, goneOf, sliceD, bound, Nat.add_assoc, szL, ldL, setCs0, setCs1, setCs2, setCsA2, setCsA3, ldM, fM0, fM1, szM, zM, plM0, plM1, agM, paM, ldJ, fJ0, fJ1, fJ2, szJ, zJ, plJ0, plJ1, plJ2, agJ, paJ, h1]
      rw [WL_loop]
      refine WL_count (I := fun i st => st.fr 1 = .int .i64 N ∧ st.fr 2 = .ptr 16 0 0 ∧ st.fr 8 = .int .i64 (upToH p a b N i) ∧ st.fr 9 = .int .i64 ((i : Int) + 1) ∧ st.H 16 = some (⟨0, 1, 1, [.int .i64 p, (V.list (List.length (a)) (List.map (V.int .i64) (a))), (V.list (List.length (b)) (List.map (V.int .i64) (b)))]⟩) ∧ 16 < st.nx ∧ Grow .i64 16 st 7 (tab i (turnH p a b N))) a.length ?_ ?_ 0 _ (by omega) ?_
      · rintro i st hi ⟨he0, he1, he2, he3, he4, he5, he6⟩ next
        have h2 := run_l09Sums p a b N 0 (i + 1) e (by omega) (by omega) (by omega)
        rw [show wkJ p a b (i + 1) ((List.replicate (i + 1) 0).set 0 1) N = fromJ p a b (i + 1) 0 N from rfl] at h2
        have lf := fromJ_len p a b (i + 1) 0 N
        rw [lf] at h2
        have u1 := upToH_range hp a b N i
        have u2 := upToH_range hp a b N (i + 1)
        have eu : rdI (fromJ p a b (i + 1) 0 N) 0 = upToH p a b N (i + 1) := rfl
        have h3 := run_l01Mod p (upToH p a b N (i + 1) - upToH p a b N i) hp
        have w2 : IntKind.i64.wrap (upToH p a b N (i + 1) - upToH p a b N i) = upToH p a b N (i + 1) - upToH p a b N i := IntWalk.i64_in _ (by omega)
        have w3 : IntKind.i64.wrap ((i : Int) + 1 + 1) = (i : Int) + 1 + 1 := IntWalk.i64_in _ (by omega)
        have tl := tab_len i (turnH p a b N)
        have ts : tab (i + 1) (turnH p a b N) = tab i (turnH p a b N) ++ [(upToH p a b N (i + 1) - upToH p a b N i) % p] := tab_succ _ _
        have c1 : (i : Int) + 1 ≤ a.length := by omega
        have c3 : (i + 1) * 8 ≤ 140737488355328 := by omega
        have hi1 : ((i + 1 : Nat) : Int) = (i : Int) + 1 := by omega
        rw [hi1, show ((0 : Nat) : Int) = 0 from rfl] at h2
        have n1 := ne_new he5
        have eu2 : upToH p a b N (i + 1) = upToH p a b N (i + 1) := rfl
        have fin : ∀ st' : St, st'.fr 1 = .int .i64 N → st'.fr 2 = .ptr 16 0 0 → st'.fr 8 = .int .i64 (upToH p a b N (i + 1)) → st'.fr 9 = .int .i64 ((i : Int) + 1 + 1) → st'.H 16 = some ⟨0, 1, 1, [.int .i64 p, (V.list (List.length (a)) (List.map (V.int .i64) (a))), (V.list (List.length (b)) (List.map (V.int .i64) (b)))]⟩ → 16 < st'.nx → Grow .i64 16 st' 7 (tab i (turnH p a b N) ++ [(upToH p a b N (i + 1) - upToH p a b N i) % p]) → WL E0 false _ _ st' := fun st' a1 a2 a3 a4 a5 a6 a7 =>
          next st' ⟨a1, a2, a3, by rw [a4]; simp, a5, a6, by rw [ts]; exact a7⟩
        have hpos : 0 < (fromJ p a b (i + 1) 0 N).length := by omega
        generalize fromJ p a b (i + 1) 0 N = F at *
        generalize upToH p a b N (i + 1) = u' at *
        generalize upToH p a b N i = u at *
        generalize tab i (turnH p a b N) = A at *
        rcases he6 with ⟨rfl, h8⟩ | ⟨id, ver, h8, hH, hx, hlo⟩
        · simp [go_sem, -map_replicate, -map_set, -map_append, -map_reverse, -map_take, -map_drop, -map_tail, -any_map, -all_map, -mapM_map, -map_map, slL, szI, ldI, zI, undL, apL, setI, rdI_get, Nat.add_one_le_iff, fillV, zeros1, zeros0, appendD, segV, lvO, goneOf, sliceD, bound, Nat.add_assoc, szL, ldL, setCs0, setCs1, setCs2, setCsA2, setCsA3, ldM, fM0, fM1, szM, zM, plM0, plM1, agM, paM, ldJ, fJ0, fJ1, fJ2, szJ, zJ, plJ0, plJ1, plJ2, agJ, paJ, he0, he1, he2, he3, he4, h8, c1, h2, lf, hpos, eu, h3, w2, w3, n1]
          exact fin _ (by simp [upd, he0]) (by simp [upd, he1]) (by simp [upd]) (by simp [upd]) (by simp [upd, he4, n1]) (by simp <;> omega) (Grow.own _ rfl (by simp) (by simp [upd]) (by simp) (by omega))
        · have q1 : ¬ 16 = id := by omega
          have q2 : ¬ id = 16 := by omega
          simp [go_sem, -map_replicate, -map_set, -map_append, -map_reverse, -map_take, -map_drop, -map_tail, -any_map, -all_map, -mapM_map, -map_map, slL, szI, ldI, zI, undL, apL, setI, rdI_get, Nat.add_one_le_iff, fillV, zeros1, zeros0, appendD, segV, lvO, goneOf, sliceD, bound, Nat.add_assoc, szL, ldL, setCs0, setCs1, setCs2, setCsA2, setCsA3, ldM, fM0, fM1, szM, zM, plM0, plM1, agM, paM, ldJ, fJ0, fJ1, fJ2, szJ, zJ, plJ0, plJ1, plJ2, agJ, paJ, he0, he1, he2, he3, he4, h8, hH, c1, h2, lf, hpos, eu, h3, w2, w3, tl, c3, q1, q2, n1, ne_new hx, new_ne hx]
          exact fin _ (by simp [upd, he0]) (by simp [upd, he1]) (by simp [upd]) (by simp [upd]) (by simp [upd, he4, n1, q1]) (by simp <;> omega) (Grow.own _ rfl (by simp [tl]) (by simp [upd]) (by simp <;> omega) hlo)
      · rintro st ⟨he0, he1, he2, he3, he4, he5, he6⟩
        have tl := tab_len a.length (turnH p a b N)
        have c1 : ¬ (a.length : Int) + 1 ≤ a.length := by omega
        rcases he6 with ⟨h0, h8⟩ | ⟨id, ver, h8, hH, hx, hlo⟩
        · rw [h0] at tl; simp at tl; omega
        · simp [go_sem, -map_replicate, -map_set, -map_append, -map_reverse, -map_take, -map_drop, -map_tail, -any_map, -all_map, -mapM_map, -map_map, slL, szI, ldI, zI, undL, apL, setI, rdI_get, Nat.add_one_le_iff, fillV, zeros1, zeros0, appendD, segV, lvO, goneOf, sliceD, bound, Nat.add_assoc, szL, ldL, setCs0, setCs1, setCs2, setCsA2, setCsA3, ldM, fM0, fM1, szM, zM, plM0, plM1, agM, paM, ldJ, fJ0, fJ1, fJ2, szJ, zJ, plJ0, plJ1, plJ2, agJ, paJ, he0, he1, he2, he3, he4, h8, hH, c1]
          simp [mvcgen_simp, -map_replicate, -map_set, -map_append, -map_reverse, -map_take, -map_drop, -map_tail, -any_map, -all_map, -mapM_map, -map_map, Try.f66, hps, hH, tl]
      · refine ⟨rfl, rfl, rfl, rfl, rfl, by simp, .inl ⟨rfl, rfl⟩⟩

theorem run_implTurningSums (p : Int) (a b : List Int) (n : Int) (ha : a.length ≤ 1048576) (hb : b.length ≤ 1048576) :
    runv E0 65 [(V.agg [V.int .i64 (p), (V.list (List.length (a)) (List.map (V.int .i64) (a))), (V.list (List.length (b)) (List.map (V.int .i64) (b)))]), .int .i64 n] = some ⟨true, .tup [(V.uniq 1 (List.length ((turns p a b n).1)) (List.map (V.int .i64) ((turns p a b n).1))), .int .i64 (turns p a b n).2], [.agg [.undef, .undef, .undef], .undef]⟩ := by
  have cdk : codeOk Try.f65.ntmps (Try.f65.body.getD .skip) = true := by kernel_rfl
  refine run_of_WL (fn := Try.f65) rfl Try.func65 rfl ⟨by simp [Try.ntmps65], by simp [wideA, ints], cdk, by simp [Try.f65]⟩ ?_
  have g1 := run_isLength n
  cases e2 : (decide (0 ≤ n) && decide (n ≤ 24)) with
  | false =>
    rw [e2] at g1
    have h1 := run_jacobiCode p a b false (by omega) (by omega)
    have hps : turns p a b n = ([], if jacB p a b then 2 else 1) := by
      simp only [turns, e2]
      cases jacB p a b <;> rfl
    cases e : jacB p a b <;> rw [e] at h1 hps <;> simp only [Bool.false_eq_true, if_false, if_true] at h1 hps <;> simp [go_sem, -map_replicate, -map_set, -map_append, -map_reverse, -map_take, -map_drop, -map_tail, -any_map, -all_map, -mapM_map, -map_map, slL, szI, ldI, zI, undL, apL, setI, rdI_get, Nat.add_one_le_iff, fillV, zeros1, zeros0, appendD, segV, lvO, goneOf, sliceD, bound, Nat.add_assoc, szL, ldL, setCs0, setCs1, setCs2, setCsA2, setCsA3, ldM, fM0, fM1, szM, zM, plM0, plM1, agM, paM, ldJ, fJ0, fJ1, fJ2, szJ, zJ, plJ0, plJ1, plJ2, agJ, paJ, g1, h1] <;> (repeat refine ⟨by kernel_rfl, by kernel_rfl, ?_⟩) <;> simp [mvcgen_simp, -map_replicate, -map_set, -map_append, -map_reverse, -map_take, -map_drop, -map_tail, -any_map, -all_map, -mapM_map, -map_map, Try.f65, hps]
  | true =>
    rw [e2] at g1
    have h1 := run_jacobiCode p a b true (by omega) (by omega)
    cases e : jacB p a b with
    | false =>
      rw [e] at h1
      simp only [Bool.false_eq_true, if_false] at h1
      simp [go_sem, -map_replicate, -map_set, -map_append, -map_reverse, -map_take, -map_drop, -map_tail, -any_map, -all_map, -mapM_map, -map_map, slL, szI, ldI, zI, undL, apL, setI, rdI_get, Nat.add_one_le_iff, fillV, zeros1, zeros0, appendD, segV, lvO, goneOf, sliceD, bound, Nat.add_assoc, szL, ldL, setCs0, setCs1, setCs2, setCsA2, setCsA3, ldM, fM0, fM1, szM, zM, plM0, plM1, agM, paM, ldJ, fJ0, fJ1, fJ2, szJ, zJ, plJ0, plJ1, plJ2, agJ, paJ, g1, h1]
      repeat refine ⟨by kernel_rfl, by kernel_rfl, ?_⟩
      simp [mvcgen_simp, -map_replicate, -map_set, -map_append, -map_reverse, -map_take, -map_drop, -map_tail, -any_map, -all_map, -mapM_map, -map_map, Try.f65, turns, e]
    | true =>
      rw [e] at h1
      have hp := jacB_prime e
      have hl := jacB_len e
      have hps : turns p a b n = (tab a.length (turnH p a b n.toNat), 0) := by simp only [turns, e, e2]; rfl
      simp only [if_true] at h1
      simp only [Bool.and_eq_true, decide_eq_true_eq] at e2
      obtain ⟨N, rfl⟩ : ∃ N : Nat, n = N := ⟨n.toNat, by omega⟩
      rw [Int.toNat_natCast] at hps
      have hsz := run_Jsize p a b
      simp [go_sem, -map_replicate, -map_set, -map_append, -map_reverse, -map_take, -map_drop, -map_tail, -any_map, -all_map, -mapM_map, -map_map, slL, szI, ldI, zI, undL, apL, setI, rdI_get, Nat.add_one_le_iff, fillV, zeros1, zeros0, appendD, segV, lvO, goneOf, sliceD, bound, Nat.add_assoc, szL, ldL, setCs0, setCs1, setCs2, setCsA2, setCsA3, ldM, fM0, fM1, szM, zM, plM0, plM1, agM, paM, ldJ, fJ0, fJ1, fJ2, szJ, zJ, plJ0, plJ1, plJ2, agJ, paJ, g1, h1, hsz]
      repeat refine ⟨by kernel_rfl, by kernel_rfl, ?_⟩
      rw [WL_loop]
      refine WL_count (I := fun i st => st.fr 1 = .int .i64 N ∧ st.fr 2 = .ptr 16 0 0 ∧ st.fr 8 = .int .i64 (upToH p a b N i) ∧ st.fr 20 = .int .i64 (i : Int) ∧ st.H 16 = some (⟨0, 1, 1, [.int .i64 p, (V.list (List.length (a)) (List.map (V.int .i64) (a))), (V.list (List.length (b)) (List.map (V.int .i64) (b)))]⟩) ∧ 16 < st.nx ∧ Grow .i64 16 st 7 (tab i (turnH p a b N)) ∧ st.fr 19 = .int .i64 (a.length : Int)) a.length ?_ ?_ 0 _ (by omega) ?_
      · rintro i st hi ⟨he0, he1, he2, he3, he4, he5, he6, he7⟩ next
        have h2 := run_from p a b N 0 (i + 1) e (by omega) (by omega) (by omega)
        have lf := fromJ_len p a b (i + 1) 0 N
        have u1 := upToH_range hp a b N i
        have u2 := upToH_range hp a b N (i + 1)
        have eu : rdI (fromJ p a b (i + 1) 0 N) 0 = upToH p a b N (i + 1) := rfl
        have h3 := run_mod p (upToH p a b N (i + 1) - upToH p a b N i) hp
        have h4 := run_Jfield p a b
        have w2 : IntKind.i64.wrap (upToH p a b N (i + 1) - upToH p a b N i) = upToH p a b N (i + 1) - upToH p a b N i := IntWalk.i64_in _ (by omega)
        have w3 : IntKind.i64.wrap ((i : Int) + 1) = (i : Int) + 1 := IntWalk.i64_in _ (by omega)
        have tl := tab_len i (turnH p a b N)
        have ts : tab (i + 1) (turnH p a b N) = tab i (turnH p a b N) ++ [(upToH p a b N (i + 1) - upToH p a b N i) % p] := tab_succ _ _
        have c1 : i < a.length := hi
        have c3 : (i + 1) * 8 ≤ 140737488355328 := by omega
        have hi1 : ((i + 1 : Nat) : Int) = (i : Int) + 1 := by omega
        rw [hi1, show ((0 : Nat) : Int) = 0 from rfl] at h2
        have n1 := ne_new he5
        have fin : ∀ st' : St, st'.fr 1 = .int .i64 N → st'.fr 2 = .ptr 16 0 0 → st'.fr 8 = .int .i64 (upToH p a b N (i + 1)) → st'.fr 20 = .int .i64 ((i : Int) + 1) → st'.H 16 = some ⟨0, 1, 1, [.int .i64 p, (V.list (List.length (a)) (List.map (V.int .i64) (a))), (V.list (List.length (b)) (List.map (V.int .i64) (b)))]⟩ → 16 < st'.nx → Grow .i64 16 st' 7 (tab i (turnH p a b N) ++ [(upToH p a b N (i + 1) - upToH p a b N i) % p]) → st'.fr 19 = .int .i64 (a.length : Int) → WL E0 false _ _ st' := fun st' a1 a2 a3 a4 a5 a6 a7 a8 =>
          next st' ⟨a1, a2, a3, by rw [a4]; simp, a5, a6, by rw [ts]; exact a7, a8⟩
        have hpos : 0 < (fromJ p a b (i + 1) 0 N).length := by omega
        generalize fromJ p a b (i + 1) 0 N = F at *
        generalize upToH p a b N (i + 1) = u' at *
        generalize upToH p a b N i = u at *
        generalize tab i (turnH p a b N) = A at *
        rcases he6 with ⟨rfl, h8⟩ | ⟨id, ver, h8, hH, hx, hlo⟩
        · simp [go_sem, -map_replicate, -map_set, -map_append, -map_reverse, -map_take, -map_drop, -map_tail, -any_map, -all_map, -mapM_map, -map_map, slL, szI, ldI, zI, undL, apL, setI, rdI_get, Nat.add_one_le_iff, fillV, zeros1, zeros0, appendD, segV, lvO, goneOf, sliceD, bound, Nat.add_assoc, szL, ldL, setCs0, setCs1, setCs2, setCsA2, setCsA3, ldM, fM0, fM1, szM, zM, plM0, plM1, agM, paM, ldJ, fJ0, fJ1, fJ2, szJ, zJ, plJ0, plJ1, plJ2, agJ, paJ, he0, he1, he2, he3, he4, he7, h8, c1, h2, lf, hpos, eu, h3, h4, hsz, w2, w3, n1]
          exact fin _ (by simp [upd, he0]) (by simp [upd, he1]) (by simp [upd]) (by simp [upd]) (by simp [upd, he4, n1]) (by simp <;> omega) (Grow.own _ rfl (by simp) (by simp [upd]) (by simp) (by omega)) (by simp [upd, he7])
        · have q1 : ¬ 16 = id := by omega
          have q2 : ¬ id = 16 := by omega
          simp [go_sem, -map_replicate, -map_set, -map_append, -map_reverse, -map_take, -map_drop, -map_tail, -any_map, -all_map, -mapM_map, -map_map, slL, szI, ldI, zI, undL, apL, setI, rdI_get, Nat.add_one_le_iff, fillV, zeros1, zeros0, appendD, segV, lvO, goneOf, sliceD, bound, Nat.add_assoc, szL, ldL, setCs0, setCs1, setCs2, setCsA2, setCsA3, ldM, fM0, fM1, szM, zM, plM0, plM1, agM, paM, ldJ, fJ0, fJ1, fJ2, szJ, zJ, plJ0, plJ1, plJ2, agJ, paJ, he0, he1, he2, he3, he4, he7, h8, hH, c1, h2, lf, hpos, eu, h3, h4, hsz, w2, w3, tl, c3, q1, q2, n1, ne_new hx, new_ne hx]
          exact fin _ (by simp [upd, he0]) (by simp [upd, he1]) (by simp [upd]) (by simp [upd]) (by simp [upd, he4, n1, q1]) (by simp <;> omega) (Grow.own _ rfl (by simp [tl]) (by simp [upd]) (by simp <;> omega) hlo) (by simp [upd, he7])
      · rintro st ⟨he0, he1, he2, he3, he4, he5, he6, he7⟩
        have tl := tab_len a.length (turnH p a b N)
        rcases he6 with ⟨h0, h8⟩ | ⟨id, ver, h8, hH, hx, hlo⟩
        · rw [h0] at tl; simp at tl; omega
        · simp [go_sem, -map_replicate, -map_set, -map_append, -map_reverse, -map_take, -map_drop, -map_tail, -any_map, -all_map, -mapM_map, -map_map, slL, szI, ldI, zI, undL, apL, setI, rdI_get, Nat.add_one_le_iff, fillV, zeros1, zeros0, appendD, segV, lvO, goneOf, sliceD, bound, Nat.add_assoc, szL, ldL, setCs0, setCs1, setCs2, setCsA2, setCsA3, ldM, fM0, fM1, szM, zM, plM0, plM1, agM, paM, ldJ, fJ0, fJ1, fJ2, szJ, zJ, plJ0, plJ1, plJ2, agJ, paJ, he0, he1, he2, he3, he4, he7, h8, hH, hsz]
          simp [mvcgen_simp, -map_replicate, -map_set, -map_append, -map_reverse, -map_take, -map_drop, -map_tail, -any_map, -all_map, -mapM_map, -map_map, Try.f65, hps, hH, tl]
      · refine ⟨rfl, rfl, rfl, rfl, rfl, by simp, .inl ⟨rfl, rfl⟩, rfl⟩

end Go.Proofs.Ytabnganndcmcnaa.Ev
