/- The source of the draws. Conditions: none. -/
import Derived.Test.YtacfkfdnncgjcaaFnBA
import Derived.Laws.Bits64b
set_option linter.unusedSimpArgs false
set_option linter.unusedVariables false
namespace Go.Proofs.Ytacfkfdnncgjcaa.Ev
open Go Go.Proofs
open List (map_replicate map_set map_append map_reverse map_take map_drop map_tail any_map all_map mapM_map map_map)
set_option maxRecDepth 4000
set_option maxHeartbeats 4000000

/-- A source of numbers: the code, the place in it, the hash. -/
structure Src where
  code : List Int
  i : Nat
  h : Int
  hb : ∀ z, z ∈ code → 0 ≤ z ∧ z ≤ 255
  hl : code.length ≤ 4096
  hi : i ≤ code.length
theorem undU8' : Try.prog.underlying 22 = some (.slice 5) := by kernel_rfl
theorem slU8 : slT Try.prog 22 = some (5, 1, 1) := by kernel_rfl
theorem ldU8' : ldT Try.prog 5 = some (false, 1) := by kernel_rfl
theorem ldU64 : ldT Try.prog 26 = some (false, 1) := by kernel_rfl
theorem szU64 : szT Try.prog 26 = some 1 := by kernel_rfl
theorem ldInt' : ldT Try.prog 3 = some (false, 1) := by kernel_rfl
theorem szInt' : szT Try.prog 3 = some 1 := by kernel_rfl
theorem ldU8S : ldT Try.prog 22 = some (false, 1) := by kernel_rfl
theorem undU64 : Try.prog.underlying 26 = some (.int .u64) := by kernel_rfl
theorem undU8n : Try.prog.underlying 5 = some (.int .u8) := by kernel_rfl
theorem undI64' : Try.prog.underlying 2 = some (.int .i64) := by kernel_rfl
theorem undInt' : Try.prog.underlying 3 = some (.int .i64) := by kernel_rfl
theorem fS0 : fldT Try.prog 133 0 = some (0, false, 1) := by kernel_rfl
theorem fS1 : fldT Try.prog 133 1 = some (1, false, 1) := by kernel_rfl
theorem fS2 : fldT Try.prog 133 2 = some (2, false, 1) := by kernel_rfl
theorem zS : zeroT Try.prog 133 = some [.nils, .int .i64 0, .int .u64 0] := by kernel_rfl
theorem agS : aggT Try.prog 133 = some true := by kernel_rfl
theorem paS : plAll Try.prog 133 = true := by kernel_rfl
theorem plS0 : plT Try.prog 133 0 = some (0, 1) := by kernel_rfl
theorem plS1 : plT Try.prog 133 1 = some (1, 1) := by kernel_rfl
theorem plS2 : plT Try.prog 133 2 = some (2, 1) := by kernel_rfl
theorem ctS' : cellTys Try.prog 133 = [some 1, none, none] := by kernel_rfl
theorem u64_range (n : Int) : 0 ≤ IntKind.u64.wrap n ∧ IntKind.u64.wrap n < 18446744073709551616 := by
  rw [IntKind.wrap_u64]; omega
theorem u64_in {n : Int} (h : 0 ≤ n ∧ n < 18446744073709551616) : IntKind.u64.wrap n = n := by
  rw [IntKind.wrap_u64]; omega
theorem bits_low (n : Int) (h : 0 ≤ n ∧ n < 18446744073709551616) : 0 ≤ Go.bits .and .u64 n 16777215 ∧ Go.bits .and .u64 n 16777215 ≤ 16777215 := by
  obtain ⟨a, rfl⟩ : ∃ a : Nat, n = a := ⟨n.toNat, by omega⟩
  rw [show (16777215 : Int) = ((16777215 : Nat) : Int) from rfl, bits_and_u64_nat a 16777215 (by omega) (by omega)]
  have : a &&& 16777215 ≤ 16777215 := Nat.and_le_right
  omega
section
variable {H : Nat → Option Ob} {d : Nat} (l : List Int)
theorem mapM_expN_u8 : (l.map (V.int .u8)).mapM (expN H d) = some (l.map (V.int .u8)) := mapM_expN_int l
end
theorem setI8 {a b c x : V} : setCs [a, b, c] 2 [x] = [a, b, x] := rfl
theorem setI81 {a b c x : V} : setCs [a, b, c] 1 [x] = [a, x, c] := rfl
theorem tmod_small {x n : Int} (hx : 0 ≤ x) (hn : 0 < n) : 0 ≤ x.tmod n ∧ x.tmod n ≤ x ∧ x.tmod n < n := by
  rw [Int.tmod_eq_emod_of_nonneg hx]
  refine ⟨Int.emod_nonneg _ (by omega), ?_, Int.emod_lt_of_pos _ hn⟩
  have h := Int.emod_add_mul_ediv x n
  have h2 : 0 ≤ n * (x / n) := Int.mul_nonneg (by omega) (Int.ediv_nonneg hx (by omega))
  omega
theorem run_l01Next0 (s : Src) (n : Int) : ∃ (s' : Src) (x : Int), (n < 1 → x = 0) ∧ (1 ≤ n → 0 ≤ x ∧ x < n) ∧
    runv E0 76 [(V.uptr [V.list (s).code.length ((s).code.map (V.int .u8)), V.int .i64 (s).i, V.int .u64 (s).h]), (V.int .i64 (n))] = some ⟨true, (V.int .i64 (x)), [(V.uptr [V.list (s').code.length ((s').code.map (V.int .u8)), V.int .i64 (s').i, V.int .u64 (s').h]), .undef]⟩ := by
  by_cases hn : n < 1
  · refine ⟨s, 0, fun _ => rfl, fun h => by omega, ?_⟩
    have cdk : codeOk Try.f76.ntmps (Try.f76.body.getD .skip) = true := by kernel_rfl
    refine run_of_WL (fn := Try.f76) rfl Try.func76 rfl ⟨by simp [Try.ntmps76], by simp [wideA, ints], cdk, by simp [Try.f76]⟩ ?_
    simp [go_sem, -map_replicate, -map_set, -map_append, -map_reverse, -map_take, -map_drop, -map_tail, -any_map, -all_map, -mapM_map, -map_map, slL, szI, ldI, zI, undL, apL, setI, rdI_get, Nat.add_one_le_iff, fillV, zeros1, zeros0, appendD, segV, lvO, goneOf, sliceD, bound, Nat.add_assoc, hn]
    simp [mvcgen_simp, -map_replicate, -map_set, -map_append, -map_reverse, -map_take, -map_drop, -map_tail, -any_map, -all_map, -mapM_map, -map_map, Try.f76, isLR, hasU]
  obtain ⟨h1, e1⟩ : ∃ h1, IntKind.u64.wrap (IntKind.u64.wrap (s.h * 6364136223846793005) + 1442695040888963407) = h1 := ⟨_, rfl⟩
  have hr := u64_range (IntKind.u64.wrap (s.h * 6364136223846793005) + 1442695040888963407)
  rw [e1] at hr
  have hb := bits_low (h1.fdiv 8589934592) (by rw [Int.fdiv_eq_ediv_of_nonneg _ (by omega)]; omega)
  obtain ⟨y, hg⟩ : ∃ y, Go.bits .and .u64 (h1.fdiv 8589934592) 16777215 = y := ⟨_, rfl⟩
  rw [hg] at hb
  have w2 : IntKind.i64.wrap y = y := IntWalk.i64_in _ (by omega)
  have w5 : ¬ n = 0 := by omega
  have hl := s.hl
  by_cases hc : s.i < s.code.length
  · have hz := s.hb _ (List.getElem_mem hc)
    rw [rdI_get hc] at hz
    have hci : (s.i : Int) < s.code.length := by omega
    have w1 : IntKind.i64.wrap ((s.i : Int) + 1) = (s.i : Int) + 1 := IntWalk.i64_in _ (by omega)
    have w3 : IntKind.i64.wrap (rdI s.code s.i) = rdI s.code s.i := IntWalk.i64_in _ (by omega)
    have w4 : IntKind.i64.wrap (y + rdI s.code s.i) = y + rdI s.code s.i := IntWalk.i64_in _ (by omega)
    have ht := tmod_small (x := y + rdI s.code s.i) (n := n) (by omega) (by omega)
    refine ⟨⟨s.code, s.i + 1, h1, s.hb, s.hl, hc⟩, (y + rdI s.code s.i).tmod n, fun h => absurd h hn, fun h => ⟨ht.1, ht.2.2⟩, ?_⟩
    have cdk : codeOk Try.f76.ntmps (Try.f76.body.getD .skip) = true := by kernel_rfl
    refine run_of_WL (fn := Try.f76) rfl Try.func76 rfl ⟨by simp [Try.ntmps76], by simp [wideA, ints], cdk, by simp [Try.f76]⟩ ?_
    simp [go_sem, -map_replicate, -map_set, -map_append, -map_reverse, -map_take, -map_drop, -map_tail, -any_map, -all_map, -mapM_map, -map_map, slL, szI, ldI, zI, undL, apL, setI, rdI_get, Nat.add_one_le_iff, fillV, zeros1, zeros0, appendD, segV, lvO, goneOf, sliceD, bound, Nat.add_assoc, hn, hc, hci, undU8', slU8, ldU8', ldU64, szU64, ldInt', szInt', ldU8S, undU64, undU8n, undI64', fS0, fS1, fS2, shOp, convD, e1, hg, w1, w2, w3, w4, w5, setI8, setI81]
    repeat refine ⟨by kernel_rfl, by kernel_rfl, ?_⟩
    simp [mvcgen_simp, -map_replicate, -map_set, -map_append, -map_reverse, -map_take, -map_drop, -map_tail, -any_map, -all_map, -mapM_map, -map_map, Try.f76, isLR, hasU]
  · have hci : ¬ (s.i : Int) < s.code.length := by omega
    have ht := tmod_small (x := y) (n := n) (by omega) (by omega)
    refine ⟨⟨s.code, s.i, h1, s.hb, s.hl, s.hi⟩, y.tmod n, fun h => absurd h hn, fun h => ⟨ht.1, ht.2.2⟩, ?_⟩
    have cdk : codeOk Try.f76.ntmps (Try.f76.body.getD .skip) = true := by kernel_rfl
    refine run_of_WL (fn := Try.f76) rfl Try.func76 rfl ⟨by simp [Try.ntmps76], by simp [wideA, ints], cdk, by simp [Try.f76]⟩ ?_
    simp [go_sem, -map_replicate, -map_set, -map_append, -map_reverse, -map_take, -map_drop, -map_tail, -any_map, -all_map, -mapM_map, -map_map, slL, szI, ldI, zI, undL, apL, setI, rdI_get, Nat.add_one_le_iff, fillV, zeros1, zeros0, appendD, segV, lvO, goneOf, sliceD, bound, Nat.add_assoc, hn, hc, hci, undU8', slU8, ldU8', ldU64, szU64, ldInt', szInt', ldU8S, undU64, undU8n, undI64', fS0, fS1, fS2, shOp, convD, e1, hg, w2, w5, setI8, setI81]
    repeat refine ⟨by kernel_rfl, by kernel_rfl, ?_⟩
    simp [mvcgen_simp, -map_replicate, -map_set, -map_append, -map_reverse, -map_take, -map_drop, -map_tail, -any_map, -all_map, -mapM_map, -map_map, Try.f76, isLR, hasU]
theorem run_l01Next (s : Src) (n : Int) : ∃ (s' : Src) (x : Int), (n < 1 → x = 0) ∧ (1 ≤ n → 0 ≤ x ∧ x < n) ∧
    runv E1 76 [(V.uptr [V.list (s).code.length ((s).code.map (V.int .u8)), V.int .i64 (s).i, V.int .u64 (s).h]), (V.int .i64 (n))] = some ⟨true, (V.int .i64 (x)), [(V.uptr [V.list (s').code.length ((s').code.map (V.int .u8)), V.int .i64 (s').i, V.int .u64 (s').h]), .undef]⟩ := by
  obtain ⟨s', x, h1, h2, h3⟩ := run_l01Next0 s n
  exact ⟨s', x, h1, h2, up h3⟩
theorem run_l01From (code : List Int) (hb : ∀ z, z ∈ code → 0 ≤ z ∧ z ≤ 255) (hl : code.length ≤ 4096) : ∃ s : Src,
    runv E1 74 [.list code.length (code.map (V.int .u8))] = some ⟨true, (V.uptr [V.list (s).code.length ((s).code.map (V.int .u8)), V.int .i64 (s).i, V.int .u64 (s).h]), [.any]⟩ := by
  have w0 : IntKind.u64.wrap (code.length : Int) = code.length := u64_in (by omega)
  let step : Nat → Int → Int := fun i h => IntKind.u64.wrap (IntKind.u64.wrap (IntKind.u64.wrap (h * 1099511628211) + rdI code i) + 103)
  let hs : Nat → Int := fun i => Nat.rec (IntKind.u64.wrap (12831 + code.length)) step i
  refine ⟨⟨code, 0, hs code.length, hb, hl, Nat.zero_le _⟩, ?_⟩
  have hs0 : hs 0 = IntKind.u64.wrap (12831 + code.length) := rfl
  have hsn : ∀ i, hs (i + 1) = IntKind.u64.wrap (IntKind.u64.wrap (IntKind.u64.wrap (hs i * 1099511628211) + rdI code i) + 103) := fun i => rfl
  clear_value hs
  have cdk : codeOk Try.f74.ntmps (Try.f74.body.getD .skip) = true := by kernel_rfl
  refine run_of_WLr (fn := Try.f74) rfl Try.func74 rfl ⟨by simp [Try.ntmps74], by simp [wideA, ints], cdk, by simp [Try.f74]⟩ rfl (by simp [rebOk, noId, adoptT, adoptA, adoptL, adoptC, depth]) ?_
  simp [go_sem, -map_replicate, -map_set, -map_append, -map_reverse, -map_take, -map_drop, -map_tail, -any_map, -all_map, -mapM_map, -map_map, slL, szI, ldI, zI, undL, apL, setI, rdI_get, Nat.add_one_le_iff, fillV, zeros1, zeros0, appendD, segV, lvO, goneOf, sliceD, bound, Nat.add_assoc, undU8', slU8, ldU8', ldU64, szU64, undInt', undU64, fS2, zS, agS, paS, plS0, plS1, plS2, convD, w0]
  rw [WL_loop]
  refine WL_for (keep := [0, 3, 4]) (rs := resM Try.f74) rfl (by kernel_rfl) (fun i => mkSt [(0, .list code.length (code.map (V.int .u8))), (3, .ptr 0 0 0), (4, .int .i64 (i : Int))] [some (⟨0, 1, 1, [.list code.length (code.map (V.int .u8)), .int .i64 0, .int .u64 (hs i)]⟩)] (resM Try.f74)) code.length ?_ ?_ 0 _ (by omega) rfl ?_
  · intro i hi next
    have hii : (i : Int) < code.length := by omega
    have h4 : (i : Int) < 4096 := by omega
    have hz := hb _ (List.getElem_mem hi)
    rw [rdI_get hi] at hz
    have w3 : IntKind.u64.wrap (rdI code i) = rdI code i := u64_in (by omega)
    have w1 : IntKind.i64.wrap ((i : Int) + 1) = (i : Int) + 1 := IntWalk.i64_in _ (by omega)
    have hn := hsn i
    simp [go_sem, -map_replicate, -map_set, -map_append, -map_reverse, -map_take, -map_drop, -map_tail, -any_map, -all_map, -mapM_map, -map_map, slL, szI, ldI, zI, undL, apL, setI, rdI_get, Nat.add_one_le_iff, fillV, zeros1, zeros0, appendD, segV, lvO, goneOf, sliceD, bound, Nat.add_assoc, hi, hii, h4, undU8', slU8, ldU8', ldU64, szU64, undU64, undU8n, fS2, convD, w1, w3, setI8]
    repeat refine ⟨by kernel_rfl, by kernel_rfl, ?_⟩
    refine next _ rfl ?_
    (refine canon_mk ?_; simp [method_specs_simp, ordIds_app, ordRen_app, ordIds_app2, ordRen_app2, -map_replicate, -map_set, -map_append, -map_reverse, -map_take, -map_drop, -map_tail, -map_map, hn])
  · simp [go_sem, -map_replicate, -map_set, -map_append, -map_reverse, -map_take, -map_drop, -map_tail, -any_map, -all_map, -mapM_map, -map_map, slL, szI, ldI, zI, undL, apL, setI, rdI_get, Nat.add_one_le_iff, fillV, zeros1, zeros0, appendD, segV, lvO, goneOf, sliceD, bound, Nat.add_assoc, undU8', slU8]
    simp [mvcgen_simp, -map_replicate, -map_set, -map_append, -map_reverse, -map_take, -map_drop, -map_tail, -any_map, -all_map, -mapM_map, -map_map, Try.f74, isLR, hasU]
  · (refine canon_mk ?_; simp [method_specs_simp, ordIds_app, ordRen_app, ordIds_app2, ordRen_app2, -map_replicate, -map_set, -map_append, -map_reverse, -map_take, -map_drop, -map_tail, -map_map, hs0])
end Go.Proofs.Ytacfkfdnncgjcaa.Ev
