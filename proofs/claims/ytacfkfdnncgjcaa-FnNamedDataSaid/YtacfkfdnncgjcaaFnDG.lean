/- Draws of numbers and paths. Conditions: none. -/
/- Draws of paths and of their numbers. Conditions: none. -/
/- Draws of lists and of Jacobi data. Conditions: none. -/
/- Draws of Jacobi data. Conditions: none. -/
/- Draws of Jacobi data with numbers and paths. Conditions: none. -/
import Derived.Test.YtacfkfdnncgjcaaFnDA
import Derived.Test.YtacfkfdnncgjcaaFnI
import Derived.Test.YtacfkfdnncgjcaaFnBC
import Derived.Test.YtacfkfdnncgjcaaFnY
set_option linter.unusedSimpArgs false
set_option linter.unusedVariables false
namespace Go.Proofs.Ytacfkfdnncgjcaa.Ev
open Go Go.Proofs
open List (map_replicate map_set map_append map_reverse map_take map_drop map_tail any_map all_map mapM_map map_map)
set_option maxRecDepth 4000
set_option maxHeartbeats 4000000

theorem zerosV4 : zerosV 4 [V.int .i64 0] = [.int .i64 0, .int .i64 0, .int .i64 0, .int .i64 0] := rfl
theorem zerosV3 : zerosV 3 [V.int .i64 0] = [.int .i64 0, .int .i64 0, .int .i64 0] := rfl
theorem zerosV5 : zerosV 5 [V.int .i64 0] = [.int .i64 0, .int .i64 0, .int .i64 0, .int .i64 0, .int .i64 0] := rfl
theorem zerosV12 : zerosV 12 [V.int .i64 0] = List.replicate 12 (.int .i64 0) := rfl
theorem run_l01Pick0 (s : Src) (l : List Int) (h0 : 0 < l.length) (hl : l.length ≤ 4096) : ∃ (s' : Src) (x : Int), x ∈ l ∧
    runv E0 77 [(V.uptr [V.list (s).code.length ((s).code.map (V.int .u8)), V.int .i64 (s).i, V.int .u64 (s).h]), .list l.length (l.map (V.int .i64))] = some ⟨true, (V.int .i64 (x)), [(V.uptr [V.list (s').code.length ((s').code.map (V.int .u8)), V.int .i64 (s').i, V.int .u64 (s').h]), .undef]⟩ := by
  have w0 : IntKind.i64.wrap (l.length : Int) = l.length := IntWalk.i64_in _ (by omega)
  obtain ⟨s', x, _, hx, h1⟩ := run_l01Next0 s l.length
  have hx := hx (by omega)
  obtain ⟨k, rfl⟩ : ∃ k : Nat, x = k := ⟨x.toNat, by omega⟩
  have hk : k < l.length := by omega
  have hk2 : (k : Int) < l.length := by omega
  have k0 : (0 : Int) ≤ (k : Int) := by omega
  refine ⟨s', l[k], List.getElem_mem hk, ?_⟩
  rw [rdI_get hk]
  have cdk : codeOk Try.f77.ntmps (Try.f77.body.getD .skip) = true := by kernel_rfl
  refine run_of_WL (fn := Try.f77) rfl Try.func77 rfl ⟨by simp [Try.ntmps77], by simp [wideA, ints], cdk, by simp [Try.f77]⟩ ?_
  simp [go_sem, -map_replicate, -map_set, -map_append, -map_reverse, -map_take, -map_drop, -map_tail, -any_map, -all_map, -mapM_map, -map_map, slL, szI, ldI, zI, undL, apL, setI, rdI_get, Nat.add_one_le_iff, fillV, zeros1, zeros0, appendD, segV, lvO, goneOf, sliceD, bound, Nat.add_assoc, undI64, undInt, convD, w0, h1, hk, hk2, k0]
  repeat refine ⟨by kernel_rfl, by kernel_rfl, ?_⟩
  simp [mvcgen_simp, -map_replicate, -map_set, -map_append, -map_reverse, -map_take, -map_drop, -map_tail, -any_map, -all_map, -mapM_map, -map_map, Try.f77, isLR, hasU]
theorem run_l01Pick (s : Src) (l : List Int) (h0 : 0 < l.length) (hl : l.length ≤ 4096) : ∃ (s' : Src) (x : Int), x ∈ l ∧
    runv E1 77 [(V.uptr [V.list (s).code.length ((s).code.map (V.int .u8)), V.int .i64 (s).i, V.int .u64 (s).h]), .list l.length (l.map (V.int .i64))] = some ⟨true, (V.int .i64 (x)), [(V.uptr [V.list (s').code.length ((s').code.map (V.int .u8)), V.int .i64 (s').i, V.int .u64 (s').h]), .undef]⟩ := by
  obtain ⟨s', x, h1, h2⟩ := run_l01Pick0 s l h0 hl
  exact ⟨s', x, h1, up h2⟩
theorem run_l01Near (s : Src) (m : Int) (hm : 0 ≤ m + 1 ∧ m ≤ 9223372036854775806) : ∃ (s' : Src) (x : Int), (x = -1 ∨ x = m + 1 ∨ x = 1099511627776 ∨ x = -4611686018427387904 ∨ (0 ≤ x ∧ x ≤ m) ∨ x = 0) ∧
    runv E1 99 [(V.uptr [V.list (s).code.length ((s).code.map (V.int .u8)), V.int .i64 (s).i, V.int .u64 (s).h]), (V.int .i64 (m))] = some ⟨true, (V.int .i64 (x)), [(V.uptr [V.list (s').code.length ((s').code.map (V.int .u8)), V.int .i64 (s').i, V.int .u64 (s').h]), .undef]⟩ := by
  have w0 : IntKind.i64.wrap (m + 1) = m + 1 := IntWalk.i64_in _ (by omega)
  obtain ⟨s1, x1, _, hx1, h1⟩ := run_l01Next s 14
  by_cases c : x1 = 0
  · obtain ⟨s2, x2, hx2, h2⟩ := run_l01Pick s1 [-1, m + 1, 1099511627776, -4611686018427387904] (by simp) (by simp)
    simp only [List.map_cons, List.map_nil, List.length_cons, List.length_nil, Nat.reduceAdd] at h2
    refine ⟨s2, x2, ?_, ?_⟩
    · simp only [List.mem_cons, List.not_mem_nil, or_false] at hx2; omega
    rw [c] at h1
    have cdk : codeOk Try.f99.ntmps (Try.f99.body.getD .skip) = true := by kernel_rfl
    refine run_of_WLp (fn := Try.f99) rfl Try.func99 rfl ⟨by simp [Try.ntmps99], by simp [wideA, ints], cdk, by simp [Try.f99]⟩ rfl (by simp [rebOk, noId, adoptT, adoptA, adoptL, adoptC, depth]) (by simp [pinned, adoptT, adoptA, adoptL, adoptC]) ?_
    simp [go_sem, -map_replicate, -map_set, -map_append, -map_reverse, -map_take, -map_drop, -map_tail, -any_map, -all_map, -mapM_map, -map_map, slL, szI, ldI, zI, undL, apL, setI, rdI_get, Nat.add_one_le_iff, fillV, zeros1, zeros0, appendD, segV, lvO, goneOf, sliceD, bound, Nat.add_assoc, w0, h1, h2, zerosV4, fillV]
    repeat refine ⟨by kernel_rfl, by kernel_rfl, ?_⟩
    simp [mvcgen_simp, -map_replicate, -map_set, -map_append, -map_reverse, -map_take, -map_drop, -map_tail, -any_map, -all_map, -mapM_map, -map_map, Try.f99, isLR, hasU]
  · obtain ⟨s2, x2, hx2, hx3, h2⟩ := run_l01Next s1 (m + 1)
    refine ⟨s2, x2, ?_, ?_⟩
    · by_cases e : m + 1 < 1
      · have := hx2 e; omega
      · have := hx3 (by omega); omega
    have cdk : codeOk Try.f99.ntmps (Try.f99.body.getD .skip) = true := by kernel_rfl
    refine run_of_WLp (fn := Try.f99) rfl Try.func99 rfl ⟨by simp [Try.ntmps99], by simp [wideA, ints], cdk, by simp [Try.f99]⟩ rfl (by simp [rebOk, noId, adoptT, adoptA, adoptL, adoptC, depth]) (by simp [pinned, adoptT, adoptA, adoptL, adoptC]) ?_
    simp [go_sem, -map_replicate, -map_set, -map_append, -map_reverse, -map_take, -map_drop, -map_tail, -any_map, -all_map, -mapM_map, -map_map, slL, szI, ldI, zI, undL, apL, setI, rdI_get, Nat.add_one_le_iff, fillV, zeros1, zeros0, appendD, segV, lvO, goneOf, sliceD, bound, Nat.add_assoc, w0, h1, h2, c, zerosV4, fillV]
    repeat refine ⟨by kernel_rfl, by kernel_rfl, ?_⟩
    simp [mvcgen_simp, -map_replicate, -map_set, -map_append, -map_reverse, -map_take, -map_drop, -map_tail, -any_map, -all_map, -mapM_map, -map_map, Try.f99, isLR, hasU]
end Go.Proofs.Ytacfkfdnncgjcaa.Ev

set_option linter.unusedSimpArgs false
set_option linter.unusedVariables false
namespace Go.Proofs.Ytacfkfdnncgjcaa.Ev
open Go Go.Proofs
open List (map_replicate map_set map_append map_reverse map_take map_drop map_tail any_map all_map mapM_map map_map)
set_option maxRecDepth 4000
set_option maxHeartbeats 4000000

/-! ### Paths -/
theorem slStrD : slT Try.prog 115 = some (9, 1, 16) := by kernel_rfl
theorem ldStrD : ldT Try.prog 9 = some (false, 1) := by kernel_rfl
theorem undStrSD : Try.prog.underlying 115 = some (.slice 9) := by kernel_rfl
theorem zStrD : zeroT Try.prog 9 = some [.str ⟨#[]⟩] := by kernel_rfl
theorem szStrD : szT Try.prog 9 = some 1 := by kernel_rfl
theorem zerosSD4 : zerosV 4 [V.str ⟨#[]⟩] = List.replicate 4 (.str ⟨#[]⟩) := rfl
theorem zerosSD3 : zerosV 3 [V.str ⟨#[]⟩] = List.replicate 3 (.str ⟨#[]⟩) := rfl
/-- The outcome is not named ahead. -/
theorem run_of_WLpQ {E : Env} {f : FuncId} {fn : Func} {c : Code} {args : List V} {G : Res → Prop} (hp : E.prim f args = none) (hf : E.P.funcs[f]? = some fn) (hb : fn.body = some c)
    (hn : args.length ≤ fn.ntmps ∧ args.all wideA ∧ codeOk fn.ntmps c ∧ fn.name ≠ "runtime.NumGoroutine") (hr : E.reb = true) (ho : rebOk args = true) (hpin : pinned args = true)
    (h : WL E (E.strict f) [.code c] (fun st => ∃ r, finish E.P (E.strict f) fn args st = some r ∧ G r) { St.enter args with rs := resM fn ||| 1 }) : ∃ r, runv E f args = some r ∧ G r := by
  obtain ⟨n, st, e, r, hfin, hg⟩ := h
  exact ⟨r, run_of_WLp hp hf hb hn hr ho hpin ⟨n, st, e, hfin⟩, hg⟩
theorem size_push (a b : ByteArray) : (a ++ b).size = a.size + b.size := ByteArray.size_append
end Go.Proofs.Ytacfkfdnncgjcaa.Ev

set_option linter.unusedSimpArgs false
set_option linter.unusedVariables false
namespace Go.Proofs.Ytacfkfdnncgjcaa.Ev
open Go Go.Proofs
open List (map_replicate map_set map_append map_reverse map_take map_drop map_tail any_map all_map mapM_map map_map)
set_option maxRecDepth 4000
set_option maxHeartbeats 4000000

theorem run_l01DrawPrime (s : Src) : ∃ (s' : Src) (p : Int), (2 ≤ p ∧ p ≤ 10007) ∧
    runv E1 75 [(V.uptr [V.list (s).code.length ((s).code.map (V.int .u8)), V.int .i64 (s).i, V.int .u64 (s).h])] = some ⟨true, (V.int .i64 (p)), [(V.uptr [V.list (s').code.length ((s').code.map (V.int .u8)), V.int .i64 (s').i, V.int .u64 (s').h])]⟩ := by
  obtain ⟨s1, p, hp, h1⟩ := run_l01Pick s [2, 3, 5, 7, 7, 11, 13, 17, 31, 101, 997, 10007] (by simp) (by simp)
  simp only [List.mem_cons, List.not_mem_nil, or_false] at hp
  simp only [List.map_cons, List.map_nil, List.length_cons, List.length_nil, Nat.reduceAdd] at h1
  refine ⟨s1, p, by omega, ?_⟩
  have cdk : codeOk Try.f75.ntmps (Try.f75.body.getD .skip) = true := by kernel_rfl
  refine run_of_WLp (fn := Try.f75) rfl Try.func75 rfl ⟨by simp [Try.ntmps75], by simp [wideA, ints], cdk, by simp [Try.f75]⟩ rfl (by simp [rebOk, noId, adoptT, adoptA, adoptL, adoptC, depth]) (by simp [pinned, adoptT, adoptA, adoptL, adoptC]) ?_
  simp [go_sem, -map_replicate, -map_set, -map_append, -map_reverse, -map_take, -map_drop, -map_tail, -any_map, -all_map, -mapM_map, -map_map, slL, szI, ldI, zI, undL, apL, setI, rdI_get, Nat.add_one_le_iff, fillV, zeros1, zeros0, appendD, segV, lvO, goneOf, sliceD, bound, Nat.add_assoc, h1, zerosV12, fillV, List.replicate]
  repeat refine ⟨by kernel_rfl, by kernel_rfl, ?_⟩
  simp [mvcgen_simp, -map_replicate, -map_set, -map_append, -map_reverse, -map_take, -map_drop, -map_tail, -any_map, -all_map, -mapM_map, -map_map, Try.f75, isLR, hasU]
theorem run_l01DrawList (s : Src) (p n : Int) (hn : n ≤ 1000) : ∃ (s' : Src) (l : List Int), l.length = n.toNat ∧
    runv E1 79 [(V.uptr [V.list (s).code.length ((s).code.map (V.int .u8)), V.int .i64 (s).i, V.int .u64 (s).h]), (V.int .i64 (p)), (V.int .i64 (n))] = some ⟨true, (V.uniq 1 (List.length (l)) (List.map (V.int .i64) (l))), [(V.uptr [V.list (s').code.length ((s').code.map (V.int .u8)), V.int .i64 (s').i, V.int .u64 (s').h]), .undef, .undef]⟩ := by
  suffices h : ∃ r, runv E1 79 [(V.uptr [V.list (s).code.length ((s).code.map (V.int .u8)), V.int .i64 (s).i, V.int .u64 (s).h]), (V.int .i64 (p)), (V.int .i64 (n))] = some r ∧ ∃ (s' : Src) (l : List Int), l.length = n.toNat ∧ r = ⟨true, (V.uniq 1 (List.length (l)) (List.map (V.int .i64) (l))), [(V.uptr [V.list (s').code.length ((s').code.map (V.int .u8)), V.int .i64 (s').i, V.int .u64 (s').h]), .undef, .undef]⟩ by
    obtain ⟨r, h, s', t, ht, rfl⟩ := h
    exact ⟨s', t, ht, h⟩
  obtain ⟨s0, cm, _, _, h0⟩ := run_l01Next s 3
  have cdk : codeOk Try.f79.ntmps (Try.f79.body.getD .skip) = true := by kernel_rfl
  refine run_of_WLpQ (fn := Try.f79) rfl Try.func79 rfl ⟨by simp [Try.ntmps79], by simp [wideA, ints], cdk, by simp [Try.f79]⟩ rfl (by simp [rebOk, noId, adoptT, adoptA, adoptL, adoptC, depth]) (by simp [pinned, adoptT, adoptA, adoptL, adoptC]) ?_
  simp [go_sem, -map_replicate, -map_set, -map_append, -map_reverse, -map_take, -map_drop, -map_tail, -any_map, -all_map, -mapM_map, -map_map, slL, szI, ldI, zI, undL, apL, setI, rdI_get, Nat.add_one_le_iff, fillV, zeros1, zeros0, appendD, segV, lvO, goneOf, sliceD, bound, Nat.add_assoc, h0, zeros0]
  rw [WL_loop]
  refine WL_forX (keep := [0, 1, 2, 7, 8]) (rs := resM Try.f79 ||| 1) rfl (by kernel_rfl) (α := Src × List Int × Int) (fun x => if x.2.1 = [] then mkSt [(0, .ptr 0 0 0), (1, .int .i64 p), (2, .int .i64 x.2.2), (7, .nils), (8, .int .i64 cm)] [some (⟨0, 1, 1, [V.list (x.1).code.length ((x.1).code.map (V.int .u8)), V.int .i64 (x.1).i, V.int .u64 (x.1).h]⟩)] (resM Try.f79 ||| 1) else mkSt [(0, .ptr 0 0 0), (1, .int .i64 p), (2, .int .i64 x.2.2), (7, .sl 1 0 0 x.2.1.length), (8, .int .i64 cm)] [some (⟨0, 1, 1, [V.list (x.1).code.length ((x.1).code.map (V.int .u8)), V.int .i64 (x.1).i, V.int .u64 (x.1).h]⟩), some (⟨0, 2, 1, x.2.1.map (V.int .i64)⟩)] (resM Try.f79 ||| 1)) (fun x => x.2.1.length + x.2.2.toNat = n.toNat ∧ (x.2.1.length ≤ 1000 ∧ x.2.2 ≤ 1000)) (fun x => x.2.2.toNat) ?_ (s0, [], n) _ ?_ rfl ?_
  · rintro ⟨s1, l, m⟩ ⟨q1, q2⟩ next
    simp only at q1 q2 next ⊢
    by_cases m0 : 0 < m
    · have w1 : IntKind.i64.wrap (m - 1) = m - 1 := IntWalk.i64_in _ (by omega)
      have c3 : (l.length + 1) * 8 ≤ 140737488355328 := by omega
      have fin : ∀ (s' : Src) (x : Int) (st' : St), st'.rs = resM Try.f79 ||| 1 → canon [0, 1, 2, 7, 8] st' = mkSt [(0, .ptr 0 0 0), (1, .int .i64 p), (2, .int .i64 (m - 1)), (7, .sl 1 0 0 (l.length + 1)), (8, .int .i64 cm)] [some (⟨0, 1, 1, [V.list (s').code.length ((s').code.map (V.int .u8)), V.int .i64 (s').i, V.int .u64 (s').h]⟩), some (⟨0, 2, 1, (l ++ [x]).map (V.int .i64)⟩)] (resM Try.f79 ||| 1) → _ := fun s' x st' a b => next (s', l ++ [x], m - 1) st' ⟨by simp only [List.length_append, List.length_singleton]; omega, by simp only [List.length_append, List.length_singleton]; omega⟩ (by simp only; omega) a (by
        rw [b]; simp only; rw [if_neg (by simp)]; simp)
      rcases l with _ | ⟨a, l⟩
      · simp only [List.length_nil, List.nil_append, List.length_cons, reduceCtorEq, if_true, if_false, Nat.zero_add, List.cons_append] at *
        by_cases c0 : cm = 0
        · subst c0
          obtain ⟨s3, x, _, _, h3⟩ := run_l01Next s1 p
          simp [go_sem, -map_replicate, -map_set, -map_append, -map_reverse, -map_take, -map_drop, -map_tail, -any_map, -all_map, -mapM_map, -map_map, slL, szI, ldI, zI, undL, apL, setI, rdI_get, Nat.add_one_le_iff, fillV, zeros1, zeros0, appendD, segV, lvO, goneOf, sliceD, bound, Nat.add_assoc, m0, w1, c3, h3, zeros1, fillV]
          repeat refine ⟨by kernel_rfl, by kernel_rfl, ?_⟩
          refine fin s3 x _ rfl ?_
          (refine canon_mkP ?_; simp [method_specs_simp, ordIds_app, ordRen_app, ordIds_app2, ordRen_app2, -map_replicate, -map_set, -map_append, -map_reverse, -map_take, -map_drop, -map_tail, -map_map, pinH])
        · obtain ⟨s2, y, _, _, h2⟩ := run_l01Next s1 3
          by_cases y0 : 0 < y
          · obtain ⟨s3, x, _, _, h3⟩ := run_l01Next s2 p
            simp [go_sem, -map_replicate, -map_set, -map_append, -map_reverse, -map_take, -map_drop, -map_tail, -any_map, -all_map, -mapM_map, -map_map, slL, szI, ldI, zI, undL, apL, setI, rdI_get, Nat.add_one_le_iff, fillV, zeros1, zeros0, appendD, segV, lvO, goneOf, sliceD, bound, Nat.add_assoc, m0, w1, c3, c0, y0, h2, h3, zeros1, fillV]
            repeat refine ⟨by kernel_rfl, by kernel_rfl, ?_⟩
            refine fin s3 x _ rfl ?_
            (refine canon_mkP ?_; simp [method_specs_simp, ordIds_app, ordRen_app, ordIds_app2, ordRen_app2, -map_replicate, -map_set, -map_append, -map_reverse, -map_take, -map_drop, -map_tail, -map_map, pinH])
          · simp [go_sem, -map_replicate, -map_set, -map_append, -map_reverse, -map_take, -map_drop, -map_tail, -any_map, -all_map, -mapM_map, -map_map, slL, szI, ldI, zI, undL, apL, setI, rdI_get, Nat.add_one_le_iff, fillV, zeros1, zeros0, appendD, segV, lvO, goneOf, sliceD, bound, Nat.add_assoc, m0, w1, c3, c0, y0, h2, zeros1, fillV]
            repeat refine ⟨by kernel_rfl, by kernel_rfl, ?_⟩
            refine fin s2 0 _ rfl ?_
            (refine canon_mkP ?_; simp [method_specs_simp, ordIds_app, ordRen_app, ordIds_app2, ordRen_app2, -map_replicate, -map_set, -map_append, -map_reverse, -map_take, -map_drop, -map_tail, -map_map, pinH])
      · simp only [List.length_nil, List.nil_append, List.length_cons, reduceCtorEq, if_true, if_false, Nat.zero_add, List.cons_append] at *
        by_cases c0 : cm = 0
        · subst c0
          obtain ⟨s3, x, _, _, h3⟩ := run_l01Next s1 p
          simp [go_sem, -map_replicate, -map_set, -map_append, -map_reverse, -map_take, -map_drop, -map_tail, -any_map, -all_map, -mapM_map, -map_map, slL, szI, ldI, zI, undL, apL, setI, rdI_get, Nat.add_one_le_iff, fillV, zeros1, zeros0, appendD, segV, lvO, goneOf, sliceD, bound, Nat.add_assoc, m0, w1, c3, h3, zeros1, fillV]
          repeat refine ⟨by kernel_rfl, by kernel_rfl, ?_⟩
          refine fin s3 x _ rfl ?_
          (refine canon_mkP ?_; simp [method_specs_simp, ordIds_app, ordRen_app, ordIds_app2, ordRen_app2, -map_replicate, -map_set, -map_append, -map_reverse, -map_take, -map_drop, -map_tail, -map_map, pinH])
        · obtain ⟨s2, y, _, _, h2⟩ := run_l01Next s1 3
          by_cases y0 : 0 < y
          · obtain ⟨s3, x, _, _, h3⟩ := run_l01Next s2 p
            simp [go_sem, -map_replicate, -map_set, -map_append, -map_reverse, -map_take, -map_drop, -map_tail, -any_map, -all_map, -mapM_map, -map_map, slL, szI, ldI, zI, undL, apL, setI, rdI_get, Nat.add_one_le_iff, fillV, zeros1, zeros0, appendD, segV, lvO, goneOf, sliceD, bound, Nat.add_assoc, m0, w1, c3, c0, y0, h2, h3, zeros1, fillV]
            repeat refine ⟨by kernel_rfl, by kernel_rfl, ?_⟩
            refine fin s3 x _ rfl ?_
            (refine canon_mkP ?_; simp [method_specs_simp, ordIds_app, ordRen_app, ordIds_app2, ordRen_app2, -map_replicate, -map_set, -map_append, -map_reverse, -map_take, -map_drop, -map_tail, -map_map, pinH])
          · simp [go_sem, -map_replicate, -map_set, -map_append, -map_reverse, -map_take, -map_drop, -map_tail, -any_map, -all_map, -mapM_map, -map_map, slL, szI, ldI, zI, undL, apL, setI, rdI_get, Nat.add_one_le_iff, fillV, zeros1, zeros0, appendD, segV, lvO, goneOf, sliceD, bound, Nat.add_assoc, m0, w1, c3, c0, y0, h2, zeros1, fillV]
            repeat refine ⟨by kernel_rfl, by kernel_rfl, ?_⟩
            refine fin s2 0 _ rfl ?_
            (refine canon_mkP ?_; simp [method_specs_simp, ordIds_app, ordRen_app, ordIds_app2, ordRen_app2, -map_replicate, -map_set, -map_append, -map_reverse, -map_take, -map_drop, -map_tail, -map_map, pinH])
    · have hl : l.length = n.toNat := by omega
      rcases l with _ | ⟨a, l⟩
      · simp only [if_true] at *
        simp [go_sem, -map_replicate, -map_set, -map_append, -map_reverse, -map_take, -map_drop, -map_tail, -any_map, -all_map, -mapM_map, -map_map, slL, szI, ldI, zI, undL, apL, setI, rdI_get, Nat.add_one_le_iff, fillV, zeros1, zeros0, appendD, segV, lvO, goneOf, sliceD, bound, Nat.add_assoc, m0]
        refine ⟨_, ?_, s1, [], hl, rfl⟩
        simp [mvcgen_simp, -map_replicate, -map_set, -map_append, -map_reverse, -map_take, -map_drop, -map_tail, -any_map, -all_map, -mapM_map, -map_map, Try.f79, isLR, hasU, ctL]
      · simp only [reduceCtorEq, if_false] at *
        simp [go_sem, -map_replicate, -map_set, -map_append, -map_reverse, -map_take, -map_drop, -map_tail, -any_map, -all_map, -mapM_map, -map_map, slL, szI, ldI, zI, undL, apL, setI, rdI_get, Nat.add_one_le_iff, fillV, zeros1, zeros0, appendD, segV, lvO, goneOf, sliceD, bound, Nat.add_assoc, m0]
        refine ⟨_, ?_, s1, a :: l, hl, rfl⟩
        simp [mvcgen_simp, -map_replicate, -map_set, -map_append, -map_reverse, -map_take, -map_drop, -map_tail, -any_map, -all_map, -mapM_map, -map_map, Try.f79, isLR, hasU, ctL]
  · exact ⟨by simp, by simp, hn⟩
  · rw [if_pos rfl]
    (refine canon_mkP ?_; simp [method_specs_simp, ordIds_app, ordRen_app, ordIds_app2, ordRen_app2, -map_replicate, -map_set, -map_append, -map_reverse, -map_take, -map_drop, -map_tail, -map_map, pinH])
end Go.Proofs.Ytacfkfdnncgjcaa.Ev

set_option linter.unusedSimpArgs false
set_option linter.unusedVariables false
namespace Go.Proofs.Ytacfkfdnncgjcaa.Ev
open Go Go.Proofs
open List (map_replicate map_set map_append map_reverse map_take map_drop map_tail any_map all_map mapM_map map_map)
set_option maxRecDepth 4000
set_option maxHeartbeats 4000000

theorem run_l03DrawOf (s : Src) (p m : Int) (hp : 2 ≤ p ∧ p ≤ 10007) (hm : 1 ≤ m ∧ m ≤ 12) : ∃ (s' : Src) (a b : List Int), (a.length = b.length ∧ 1 ≤ a.length ∧ a.length ≤ 12) ∧
    runv E1 153 [(V.uptr [V.list (s).code.length ((s).code.map (V.int .u8)), V.int .i64 (s).i, V.int .u64 (s).h]), (V.int .i64 (p)), (V.int .i64 (m))] = some ⟨true, (V.agg [V.int .i64 (p), (V.uniq 1 (List.length (a)) (List.map (V.int .i64) (a))), (V.uniq 1 (List.length (b)) (List.map (V.int .i64) (b)))]), [(V.uptr [V.list (s').code.length ((s').code.map (V.int .u8)), V.int .i64 (s').i, V.int .u64 (s').h]), .undef, .undef]⟩ := by
  suffices h : ∃ r, runv E1 153 [(V.uptr [V.list (s).code.length ((s).code.map (V.int .u8)), V.int .i64 (s).i, V.int .u64 (s).h]), (V.int .i64 (p)), (V.int .i64 (m))] = some r ∧ ∃ (s' : Src) (a b : List Int), (a.length = b.length ∧ 1 ≤ a.length ∧ a.length ≤ 12) ∧ r = ⟨true, (V.agg [V.int .i64 (p), (V.uniq 1 (List.length (a)) (List.map (V.int .i64) (a))), (V.uniq 1 (List.length (b)) (List.map (V.int .i64) (b)))]), [(V.uptr [V.list (s').code.length ((s').code.map (V.int .u8)), V.int .i64 (s').i, V.int .u64 (s').h]), .undef, .undef]⟩ by
    obtain ⟨r, h, s', a, b, ht, rfl⟩ := h
    exact ⟨s', a, b, ht, h⟩
  obtain ⟨s0, n0, _, hn0, h0⟩ := run_l01Next s m
  have hn0 := hn0 (by omega)
  have w0 : IntKind.i64.wrap (1 + n0) = 1 + n0 := IntWalk.i64_in _ (by omega)
  obtain ⟨s1, a, ha, h1⟩ := run_l01DrawList s0 p (1 + n0) (by omega)
  have ha' : (a.length : Int) = 1 + n0 := by omega
  have han : ¬ a = [] := fun h => by rw [h] at ha'; simp at ha'; omega
  have ha12 : a.length ≤ 12 := by omega
  have ha0 : 1 ≤ a.length := by omega
  have cdk : codeOk Try.f153.ntmps (Try.f153.body.getD .skip) = true := by kernel_rfl
  refine run_of_WLpQ (fn := Try.f153) rfl Try.func153 rfl ⟨by simp [Try.ntmps153], by simp [wideA, ints], cdk, by simp [Try.f153]⟩ rfl (by simp [rebOk, noId, adoptT, adoptA, adoptL, adoptC, depth]) (by simp [pinned, adoptT, adoptA, adoptL, adoptC]) ?_
  simp [go_sem, -map_replicate, -map_set, -map_append, -map_reverse, -map_take, -map_drop, -map_tail, -any_map, -all_map, -mapM_map, -map_map, slL, szI, ldI, zI, undL, apL, setI, rdI_get, Nat.add_one_le_iff, fillV, zeros1, zeros0, appendD, segV, lvO, goneOf, sliceD, bound, Nat.add_assoc, szL, ldL, setCs0, setCs1, setCs2, setCsA2, setCsA3, ldM, fM0, fM1, szM, zM, plM0, plM1, agM, paM, ldJ, fJ0, fJ1, fJ2, szJ, zJ, plJ0, plJ1, plJ2, agJ, paJ, w0, h0, h1, zeros0, fillV]
  rw [WL_loop]
  refine WL_forX (keep := [0, 1, 6, 7, 8]) (rs := resM Try.f153 ||| 1) rfl (by kernel_rfl) (α := Src × List Int × Int) (fun x => if x.2.1 = [] then mkSt [(0, .ptr 0 0 0), (1, .int .i64 p), (6, .ptr 1 0 0), (7, .int .i64 x.2.2), (8, .ptr 2 0 0)] [some (⟨0, 1, 1, [V.list (x.1).code.length ((x.1).code.map (V.int .u8)), V.int .i64 (x.1).i, V.int .u64 (x.1).h]⟩), some (⟨0, 1, 1, [.int .i64 0, .nils, .nils]⟩), some (⟨0, 1, 1, [.int .i64 p, .sl 3 0 0 a.length, .nils]⟩), some (⟨0, 2, 1, a.map (V.int .i64)⟩)] (resM Try.f153 ||| 1) else mkSt [(0, .ptr 0 0 0), (1, .int .i64 p), (6, .ptr 1 0 0), (7, .int .i64 x.2.2), (8, .ptr 2 0 0)] [some (⟨0, 1, 1, [V.list (x.1).code.length ((x.1).code.map (V.int .u8)), V.int .i64 (x.1).i, V.int .u64 (x.1).h]⟩), some (⟨0, 1, 1, [.int .i64 0, .nils, .nils]⟩), some (⟨0, 1, 1, [.int .i64 p, .sl 3 0 0 a.length, .sl 4 0 0 x.2.1.length]⟩), some (⟨0, 2, 1, a.map (V.int .i64)⟩), some (⟨0, 2, 1, x.2.1.map (V.int .i64)⟩)] (resM Try.f153 ||| 1)) (fun x => (x.2.1.length : Int) + x.2.2 = a.length ∧ 0 ≤ x.2.2) (fun x => x.2.2.toNat) ?_ (s1, [], 1 + n0) _ ?_ rfl ?_
  · rintro ⟨s1, l, k⟩ ⟨q1, q2⟩ next
    simp only at q1 q2 next ⊢
    by_cases m0 : 0 < k
    · have w1 : IntKind.i64.wrap (k - 1) = k - 1 := IntWalk.i64_in _ (by omega)
      have w2 : IntKind.i64.wrap (p - 1) = p - 1 := IntWalk.i64_in _ (by omega)
      have c3 : (l.length + 1) * 8 ≤ 140737488355328 := by omega
      have fin : ∀ (s' : Src) (x : Int) (st' : St), st'.rs = resM Try.f153 ||| 1 → canon [0, 1, 6, 7, 8] st' = mkSt [(0, .ptr 0 0 0), (1, .int .i64 p), (6, .ptr 1 0 0), (7, .int .i64 (k - 1)), (8, .ptr 2 0 0)] [some (⟨0, 1, 1, [V.list (s').code.length ((s').code.map (V.int .u8)), V.int .i64 (s').i, V.int .u64 (s').h]⟩), some (⟨0, 1, 1, [.int .i64 0, .nils, .nils]⟩), some (⟨0, 1, 1, [.int .i64 p, .sl 3 0 0 a.length, .sl 4 0 0 (l.length + 1)]⟩), some (⟨0, 2, 1, a.map (V.int .i64)⟩), some (⟨0, 2, 1, (l ++ [x]).map (V.int .i64)⟩)] (resM Try.f153 ||| 1) → _ := fun s' x st' a b => next (s', l ++ [x], k - 1) st' ⟨by simp only [List.length_append, List.length_singleton]; omega, by simp only; omega⟩ (by simp only; omega) a (by
        rw [b]; simp only; rw [if_neg (by simp)]; simp)
      obtain ⟨s3, x, _, hx, h3⟩ := run_l01Next s1 (p - 1)
      have hx := hx (by omega)
      have w3 : IntKind.i64.wrap (1 + x) = 1 + x := IntWalk.i64_in _ (by omega)
      rcases l with _ | ⟨c, l⟩
      · simp only [List.length_nil, List.nil_append, List.length_cons, reduceCtorEq, if_true, if_false, Nat.zero_add, List.cons_append] at *
        simp [go_sem, -map_replicate, -map_set, -map_append, -map_reverse, -map_take, -map_drop, -map_tail, -any_map, -all_map, -mapM_map, -map_map, slL, szI, ldI, zI, undL, apL, setI, rdI_get, Nat.add_one_le_iff, fillV, zeros1, zeros0, appendD, segV, lvO, goneOf, sliceD, bound, Nat.add_assoc, szL, ldL, setCs0, setCs1, setCs2, setCsA2, setCsA3, ldM, fM0, fM1, szM, zM, plM0, plM1, agM, paM, ldJ, fJ0, fJ1, fJ2, szJ, zJ, plJ0, plJ1, plJ2, agJ, paJ, m0, w1, w2, w3, c3, h3, zeros1, fillV]
        repeat refine ⟨by kernel_rfl, by kernel_rfl, ?_⟩
        refine fin s3 (1 + x) _ rfl ?_
        (refine canon_mkP ?_; simp [method_specs_simp, ordIds_app, ordRen_app, ordIds_app2, ordRen_app2, -map_replicate, -map_set, -map_append, -map_reverse, -map_take, -map_drop, -map_tail, -map_map, pinH])
      · simp only [List.length_nil, List.nil_append, List.length_cons, reduceCtorEq, if_true, if_false, Nat.zero_add, List.cons_append] at *
        simp [go_sem, -map_replicate, -map_set, -map_append, -map_reverse, -map_take, -map_drop, -map_tail, -any_map, -all_map, -mapM_map, -map_map, slL, szI, ldI, zI, undL, apL, setI, rdI_get, Nat.add_one_le_iff, fillV, zeros1, zeros0, appendD, segV, lvO, goneOf, sliceD, bound, Nat.add_assoc, szL, ldL, setCs0, setCs1, setCs2, setCsA2, setCsA3, ldM, fM0, fM1, szM, zM, plM0, plM1, agM, paM, ldJ, fJ0, fJ1, fJ2, szJ, zJ, plJ0, plJ1, plJ2, agJ, paJ, m0, w1, w2, w3, c3, h3, zeros1, fillV]
        repeat refine ⟨by kernel_rfl, by kernel_rfl, ?_⟩
        refine fin s3 (1 + x) _ rfl ?_
        (refine canon_mkP ?_; simp [method_specs_simp, ordIds_app, ordRen_app, ordIds_app2, ordRen_app2, -map_replicate, -map_set, -map_append, -map_reverse, -map_take, -map_drop, -map_tail, -map_map, pinH])
    · have hk : k = 0 := by omega
      subst hk
      have hl : l.length = a.length := by omega
      obtain ⟨s2, y, _, _, h2⟩ := run_l01Next s1 6
      rcases l with _ | ⟨c, l⟩
      · exfalso; simp at hl; omega
      · simp only [reduceCtorEq, if_false] at *
        by_cases y0 : y = 0
        · have c4 : a.length * 8 ≤ 140737488355328 := by omega
          have c5 : (a.length : Int) ≤ 9223372036854775807 := by omega
          have c6 : (0 : Int) ≤ (a.length : Int) := by omega
          subst y0
          simp [go_sem, -map_replicate, -map_set, -map_append, -map_reverse, -map_take, -map_drop, -map_tail, -any_map, -all_map, -mapM_map, -map_map, slL, szI, ldI, zI, undL, apL, setI, rdI_get, Nat.add_one_le_iff, fillV, zeros1, zeros0, appendD, segV, lvO, goneOf, sliceD, bound, Nat.add_assoc, szL, ldL, setCs0, setCs1, setCs2, setCsA2, setCsA3, ldM, fM0, fM1, szM, zM, plM0, plM1, agM, paM, ldJ, fJ0, fJ1, fJ2, szJ, zJ, plJ0, plJ1, plJ2, agJ, paJ, h2, c4, c5, c6, zerosI]
          repeat refine ⟨by kernel_rfl, by kernel_rfl, ?_⟩
          refine ⟨_, ?_, s2, List.replicate a.length 0, c :: l, ⟨by simp only [List.length_replicate]; omega, by simp only [List.length_replicate]; omega, by simp only [List.length_replicate]; omega⟩, rfl⟩
          simp [mvcgen_simp, -map_replicate, -map_set, -map_append, -map_reverse, -map_take, -map_drop, -map_tail, -any_map, -all_map, -mapM_map, -map_map, Try.f153, szL, ldL, setCs0, setCs1, setCs2, setCsA2, setCsA3, ldM, fM0, fM1, szM, zM, plM0, plM1, agM, paM, ldJ, fJ0, fJ1, fJ2, szJ, zJ, plJ0, plJ1, plJ2, agJ, paJ, ctJ, loadD, viewN, isLR, hasU]
        · simp [go_sem, -map_replicate, -map_set, -map_append, -map_reverse, -map_take, -map_drop, -map_tail, -any_map, -all_map, -mapM_map, -map_map, slL, szI, ldI, zI, undL, apL, setI, rdI_get, Nat.add_one_le_iff, fillV, zeros1, zeros0, appendD, segV, lvO, goneOf, sliceD, bound, Nat.add_assoc, szL, ldL, setCs0, setCs1, setCs2, setCsA2, setCsA3, ldM, fM0, fM1, szM, zM, plM0, plM1, agM, paM, ldJ, fJ0, fJ1, fJ2, szJ, zJ, plJ0, plJ1, plJ2, agJ, paJ, h2, y0]
          repeat refine ⟨by kernel_rfl, by kernel_rfl, ?_⟩
          refine ⟨_, ?_, s2, a, c :: l, ⟨by omega, ha0, ha12⟩, rfl⟩
          simp [mvcgen_simp, -map_replicate, -map_set, -map_append, -map_reverse, -map_take, -map_drop, -map_tail, -any_map, -all_map, -mapM_map, -map_map, Try.f153, szL, ldL, setCs0, setCs1, setCs2, setCsA2, setCsA3, ldM, fM0, fM1, szM, zM, plM0, plM1, agM, paM, ldJ, fJ0, fJ1, fJ2, szJ, zJ, plJ0, plJ1, plJ2, agJ, paJ, ctJ, loadD, viewN, isLR, hasU]
  · exact ⟨by simp only [List.length_nil]; omega, by simp only; omega⟩
  · rw [if_pos rfl]
    (refine canon_mkP ?_; simp [method_specs_simp, ordIds_app, ordRen_app, ordIds_app2, ordRen_app2, -map_replicate, -map_set, -map_append, -map_reverse, -map_take, -map_drop, -map_tail, -map_map, pinH])
theorem run_l03Draw (s : Src) : ∃ (s' : Src) (p : Int) (a b : List Int), (a.length = b.length ∧ 1 ≤ a.length ∧ a.length ≤ 12) ∧
    runv E1 140 [(V.uptr [V.list (s).code.length ((s).code.map (V.int .u8)), V.int .i64 (s).i, V.int .u64 (s).h])] = some ⟨true, (V.agg [V.int .i64 (p), (V.uniq 1 (List.length (a)) (List.map (V.int .i64) (a))), (V.uniq 1 (List.length (b)) (List.map (V.int .i64) (b)))]), [(V.uptr [V.list (s').code.length ((s').code.map (V.int .u8)), V.int .i64 (s').i, V.int .u64 (s').h])]⟩ := by
  obtain ⟨s1, p, hp, h1⟩ := run_l01DrawPrime s
  obtain ⟨s2, m, hm, h2⟩ := run_l01Pick s1 [2, 3, 4, 6, 12] (by simp) (by simp)
  simp only [List.mem_cons, List.not_mem_nil, or_false] at hm
  obtain ⟨s3, a, b, hab, h3⟩ := run_l03DrawOf s2 p m hp (by omega)
  simp only [List.map_cons, List.map_nil, List.length_cons, List.length_nil, Nat.reduceAdd] at h2
  refine ⟨s3, p, a, b, hab, ?_⟩
  have cdk : codeOk Try.f140.ntmps (Try.f140.body.getD .skip) = true := by kernel_rfl
  refine run_of_WLp (fn := Try.f140) rfl Try.func140 rfl ⟨by simp [Try.ntmps140], by simp [wideA, ints], cdk, by simp [Try.f140]⟩ rfl (by simp [rebOk, noId, adoptT, adoptA, adoptL, adoptC, depth]) (by simp [pinned, adoptT, adoptA, adoptL, adoptC]) ?_
  simp [go_sem, -map_replicate, -map_set, -map_append, -map_reverse, -map_take, -map_drop, -map_tail, -any_map, -all_map, -mapM_map, -map_map, slL, szI, ldI, zI, undL, apL, setI, rdI_get, Nat.add_one_le_iff, fillV, zeros1, zeros0, appendD, segV, lvO, goneOf, sliceD, bound, Nat.add_assoc, szL, ldL, setCs0, setCs1, setCs2, setCsA2, setCsA3, ldM, fM0, fM1, szM, zM, plM0, plM1, agM, paM, ldJ, fJ0, fJ1, fJ2, szJ, zJ, plJ0, plJ1, plJ2, agJ, paJ, h1, h2, h3, zerosV5, fillV]
  repeat refine ⟨by kernel_rfl, by kernel_rfl, ?_⟩
  simp [mvcgen_simp, -map_replicate, -map_set, -map_append, -map_reverse, -map_take, -map_drop, -map_tail, -any_map, -all_map, -mapM_map, -map_map, Try.f140, szL, ldL, setCs0, setCs1, setCs2, setCsA2, setCsA3, ldM, fM0, fM1, szM, zM, plM0, plM1, agM, paM, ldJ, fJ0, fJ1, fJ2, szJ, zJ, plJ0, plJ1, plJ2, agJ, paJ, ctJ, loadD, viewN, isLR, hasU]
theorem run_l03Bad (s : Src) (p : Int) (a b : List Int) (hab : a.length = b.length ∧ 1 ≤ a.length ∧ a.length ≤ 12) : ∃ (s' : Src) (p' : Int) (a' b' : List Int), (1 ≤ a'.length ∧ a'.length ≤ 13 ∧ b'.length ≤ 13) ∧
    runv E1 139 [(V.uptr [V.list (s).code.length ((s).code.map (V.int .u8)), V.int .i64 (s).i, V.int .u64 (s).h]), (V.agg [V.int .i64 (p), (V.list (List.length (a)) (List.map (V.int .i64) (a))), (V.list (List.length (b)) (List.map (V.int .i64) (b)))])] = some ⟨false, (V.agg [V.int .i64 (p'), (V.list (List.length (a')) (List.map (V.int .i64) (a'))), (V.list (List.length (b')) (List.map (V.int .i64) (b')))]), [(V.uptr [V.list (s').code.length ((s').code.map (V.int .u8)), V.int .i64 (s').i, V.int .u64 (s').h]), .agg [.undef, .undef, .undef]]⟩ := by
  obtain ⟨s1, x, _, hx, h1⟩ := run_l01Next s 40
  by_cases x0 : x = 0
  · subst x0
    obtain ⟨s2, q, _, h2⟩ := run_l01Pick s1 [0, 4, 10009] (by simp) (by simp)
    simp only [List.map_cons, List.map_nil, List.length_cons, List.length_nil, Nat.reduceAdd] at h2
    refine ⟨s2, q, a, b, by omega, ?_⟩
    have cdk : codeOk Try.f139.ntmps (Try.f139.body.getD .skip) = true := by kernel_rfl
    refine run_of_WLp (fn := Try.f139) rfl Try.func139 rfl ⟨by simp [Try.ntmps139], by simp [wideA, ints], cdk, by simp [Try.f139]⟩ rfl (by simp [rebOk, noId, adoptT, adoptA, adoptL, adoptC, depth]) (by simp [pinned, adoptT, adoptA, adoptL, adoptC]) ?_
    simp [go_sem, -map_replicate, -map_set, -map_append, -map_reverse, -map_take, -map_drop, -map_tail, -any_map, -all_map, -mapM_map, -map_map, slL, szI, ldI, zI, undL, apL, setI, rdI_get, Nat.add_one_le_iff, fillV, zeros1, zeros0, appendD, segV, lvO, goneOf, sliceD, bound, Nat.add_assoc, szL, ldL, setCs0, setCs1, setCs2, setCsA2, setCsA3, ldM, fM0, fM1, szM, zM, plM0, plM1, agM, paM, ldJ, fJ0, fJ1, fJ2, szJ, zJ, plJ0, plJ1, plJ2, agJ, paJ, h1, h2, zerosV3, fillV]
    repeat refine ⟨by kernel_rfl, by kernel_rfl, ?_⟩
    simp [mvcgen_simp, -map_replicate, -map_set, -map_append, -map_reverse, -map_take, -map_drop, -map_tail, -any_map, -all_map, -mapM_map, -map_map, Try.f139, szL, ldL, setCs0, setCs1, setCs2, setCsA2, setCsA3, ldM, fM0, fM1, szM, zM, plM0, plM1, agM, paM, ldJ, fJ0, fJ1, fJ2, szJ, zJ, plJ0, plJ1, plJ2, agJ, paJ, ctJ, loadD, viewN, isLR, hasU]
  by_cases x1 : x = 1
  · subst x1
    have h2 := up (run_l01Own b (by omega))
    have c3 : (b.length + 1) * 8 ≤ 140737488355328 := by omega
    refine ⟨s1, p, a, b ++ [1], by simp only [List.length_append, List.length_singleton]; omega, ?_⟩
    have cdk : codeOk Try.f139.ntmps (Try.f139.body.getD .skip) = true := by kernel_rfl
    refine run_of_WLp (fn := Try.f139) rfl Try.func139 rfl ⟨by simp [Try.ntmps139], by simp [wideA, ints], cdk, by simp [Try.f139]⟩ rfl (by simp [rebOk, noId, adoptT, adoptA, adoptL, adoptC, depth]) (by simp [pinned, adoptT, adoptA, adoptL, adoptC]) ?_
    have app : b.map (V.int .i64) ++ [V.int .i64 1] = (b ++ [1]).map (V.int .i64) := by simp
    have lap : (b ++ [1]).length = b.length + 1 := by simp
    simp [go_sem, -map_replicate, -map_set, -map_append, -map_reverse, -map_take, -map_drop, -map_tail, -any_map, -all_map, -mapM_map, -map_map, slL, szI, ldI, zI, undL, apL, setI, rdI_get, Nat.add_one_le_iff, fillV, zeros1, zeros0, appendD, segV, lvO, goneOf, sliceD, bound, Nat.add_assoc, szL, ldL, setCs0, setCs1, setCs2, setCsA2, setCsA3, ldM, fM0, fM1, szM, zM, plM0, plM1, agM, paM, ldJ, fJ0, fJ1, fJ2, szJ, zJ, plJ0, plJ1, plJ2, agJ, paJ, h1, h2, c3, zeros1, fillV, app]
    repeat refine ⟨by kernel_rfl, by kernel_rfl, ?_⟩
    generalize b ++ [1] = b2 at *
    simp [mvcgen_simp, -map_replicate, -map_set, -map_append, -map_reverse, -map_take, -map_drop, -map_tail, -any_map, -all_map, -mapM_map, -map_map, Try.f139, szL, ldL, setCs0, setCs1, setCs2, setCsA2, setCsA3, ldM, fM0, fM1, szM, zM, plM0, plM1, agM, paM, ldJ, fJ0, fJ1, fJ2, szJ, zJ, plJ0, plJ1, plJ2, agJ, paJ, ctJ, loadD, viewN, isLR, hasU, app, lap]
  by_cases x2 : x = 2
  · subst x2
    have h2 := up (run_l01Own b (by omega))
    have w2 : IntKind.i64.wrap (b.length : Int) = b.length := IntWalk.i64_in _ (by omega)
    obtain ⟨s2, y, _, hy, h3⟩ := run_l01Next s1 b.length
    have hy := hy (by omega)
    obtain ⟨k, rfl⟩ : ∃ k : Nat, y = k := ⟨y.toNat, by omega⟩
    have hk : k < b.length := by omega
    have hk2 : (k : Int) < b.length := by omega
    obtain ⟨s3, q, _, h4⟩ := run_l01Pick s2 [0, p] (by simp) (by simp)
    simp only [List.map_cons, List.map_nil, List.length_cons, List.length_nil, Nat.reduceAdd] at h4
    refine ⟨s3, p, a, b.set k q, by simp; omega, ?_⟩
    have cdk : codeOk Try.f139.ntmps (Try.f139.body.getD .skip) = true := by kernel_rfl
    refine run_of_WLp (fn := Try.f139) rfl Try.func139 rfl ⟨by simp [Try.ntmps139], by simp [wideA, ints], cdk, by simp [Try.f139]⟩ rfl (by simp [rebOk, noId, adoptT, adoptA, adoptL, adoptC, depth]) (by simp [pinned, adoptT, adoptA, adoptL, adoptC]) ?_
    simp [go_sem, -map_replicate, -map_set, -map_append, -map_reverse, -map_take, -map_drop, -map_tail, -any_map, -all_map, -mapM_map, -map_map, slL, szI, ldI, zI, undL, apL, setI, rdI_get, Nat.add_one_le_iff, fillV, zeros1, zeros0, appendD, segV, lvO, goneOf, sliceD, bound, Nat.add_assoc, szL, ldL, setCs0, setCs1, setCs2, setCsA2, setCsA3, ldM, fM0, fM1, szM, zM, plM0, plM1, agM, paM, ldJ, fJ0, fJ1, fJ2, szJ, zJ, plJ0, plJ1, plJ2, agJ, paJ, h1, h2, h3, h4, hk, hk2, w2, undI64, convD, zerosV2, fillV]
    repeat refine ⟨by kernel_rfl, by kernel_rfl, ?_⟩
    simp [mvcgen_simp, -map_replicate, -map_set, -map_append, -map_reverse, -map_take, -map_drop, -map_tail, -any_map, -all_map, -mapM_map, -map_map, Try.f139, szL, ldL, setCs0, setCs1, setCs2, setCsA2, setCsA3, ldM, fM0, fM1, szM, zM, plM0, plM1, agM, paM, ldJ, fJ0, fJ1, fJ2, szJ, zJ, plJ0, plJ1, plJ2, agJ, paJ, ctJ, loadD, viewN, isLR, hasU]
  by_cases x3 : x = 3
  · subst x3
    have h2 := up (run_l01Own a (by omega))
    obtain ⟨s3, q, _, h4⟩ := run_l01Pick s1 [-1, p] (by simp) (by simp)
    simp only [List.map_cons, List.map_nil, List.length_cons, List.length_nil, Nat.reduceAdd] at h4
    have hk : 0 < a.length := by omega
    have hk2 : (0 : Int) < a.length := by omega
    refine ⟨s3, p, a.set 0 q, b, by simp; omega, ?_⟩
    have cdk : codeOk Try.f139.ntmps (Try.f139.body.getD .skip) = true := by kernel_rfl
    refine run_of_WLp (fn := Try.f139) rfl Try.func139 rfl ⟨by simp [Try.ntmps139], by simp [wideA, ints], cdk, by simp [Try.f139]⟩ rfl (by simp [rebOk, noId, adoptT, adoptA, adoptL, adoptC, depth]) (by simp [pinned, adoptT, adoptA, adoptL, adoptC]) ?_
    simp [go_sem, -map_replicate, -map_set, -map_append, -map_reverse, -map_take, -map_drop, -map_tail, -any_map, -all_map, -mapM_map, -map_map, slL, szI, ldI, zI, undL, apL, setI, rdI_get, Nat.add_one_le_iff, fillV, zeros1, zeros0, appendD, segV, lvO, goneOf, sliceD, bound, Nat.add_assoc, szL, ldL, setCs0, setCs1, setCs2, setCsA2, setCsA3, ldM, fM0, fM1, szM, zM, plM0, plM1, agM, paM, ldJ, fJ0, fJ1, fJ2, szJ, zJ, plJ0, plJ1, plJ2, agJ, paJ, h1, h2, h4, hk, hk2, zerosV2, fillV]
    repeat refine ⟨by kernel_rfl, by kernel_rfl, ?_⟩
    simp [mvcgen_simp, -map_replicate, -map_set, -map_append, -map_reverse, -map_take, -map_drop, -map_tail, -any_map, -all_map, -mapM_map, -map_map, Try.f139, szL, ldL, setCs0, setCs1, setCs2, setCsA2, setCsA3, ldM, fM0, fM1, szM, zM, plM0, plM1, agM, paM, ldJ, fJ0, fJ1, fJ2, szJ, zJ, plJ0, plJ1, plJ2, agJ, paJ, ctJ, loadD, viewN, isLR, hasU]
  refine ⟨s1, p, a, b, by omega, ?_⟩
  have cdk : codeOk Try.f139.ntmps (Try.f139.body.getD .skip) = true := by kernel_rfl
  refine run_of_WLp (fn := Try.f139) rfl Try.func139 rfl ⟨by simp [Try.ntmps139], by simp [wideA, ints], cdk, by simp [Try.f139]⟩ rfl (by simp [rebOk, noId, adoptT, adoptA, adoptL, adoptC, depth]) (by simp [pinned, adoptT, adoptA, adoptL, adoptC]) ?_
  simp [go_sem, -map_replicate, -map_set, -map_append, -map_reverse, -map_take, -map_drop, -map_tail, -any_map, -all_map, -mapM_map, -map_map, slL, szI, ldI, zI, undL, apL, setI, rdI_get, Nat.add_one_le_iff, fillV, zeros1, zeros0, appendD, segV, lvO, goneOf, sliceD, bound, Nat.add_assoc, szL, ldL, setCs0, setCs1, setCs2, setCsA2, setCsA3, ldM, fM0, fM1, szM, zM, plM0, plM1, agM, paM, ldJ, fJ0, fJ1, fJ2, szJ, zJ, plJ0, plJ1, plJ2, agJ, paJ, h1, x0, x1, x2, x3]
  repeat refine ⟨by kernel_rfl, by kernel_rfl, ?_⟩
  simp [mvcgen_simp, -map_replicate, -map_set, -map_append, -map_reverse, -map_take, -map_drop, -map_tail, -any_map, -all_map, -mapM_map, -map_map, Try.f139, szL, ldL, setCs0, setCs1, setCs2, setCsA2, setCsA3, ldM, fM0, fM1, szM, zM, plM0, plM1, agM, paM, ldJ, fJ0, fJ1, fJ2, szJ, zJ, plJ0, plJ1, plJ2, agJ, paJ, ctJ, loadD, viewN, isLR, hasU]
theorem run_l03Spoil (s : Src) : ∃ (s' : Src) (p : Int) (a b : List Int), (1 ≤ a.length ∧ a.length ≤ 13 ∧ b.length ≤ 13) ∧
    runv E1 100 [(V.uptr [V.list (s).code.length ((s).code.map (V.int .u8)), V.int .i64 (s).i, V.int .u64 (s).h])] = some ⟨false, (V.agg [V.int .i64 (p), (V.list (List.length (a)) (List.map (V.int .i64) (a))), (V.list (List.length (b)) (List.map (V.int .i64) (b)))]), [(V.uptr [V.list (s').code.length ((s').code.map (V.int .u8)), V.int .i64 (s').i, V.int .u64 (s').h])]⟩ := by
  obtain ⟨s1, p, a, b, hab, h1⟩ := run_l03Draw s
  obtain ⟨s2, p', a', b', hab', h2⟩ := run_l03Bad s1 p a b hab
  refine ⟨s2, p', a', b', hab', ?_⟩
  have cdk : codeOk Try.f100.ntmps (Try.f100.body.getD .skip) = true := by kernel_rfl
  refine run_of_WLp (fn := Try.f100) rfl Try.func100 rfl ⟨by simp [Try.ntmps100], by simp [wideA, ints], cdk, by simp [Try.f100]⟩ rfl (by simp [rebOk, noId, adoptT, adoptA, adoptL, adoptC, depth]) (by simp [pinned, adoptT, adoptA, adoptL, adoptC]) ?_
  simp [go_sem, -map_replicate, -map_set, -map_append, -map_reverse, -map_take, -map_drop, -map_tail, -any_map, -all_map, -mapM_map, -map_map, slL, szI, ldI, zI, undL, apL, setI, rdI_get, Nat.add_one_le_iff, fillV, zeros1, zeros0, appendD, segV, lvO, goneOf, sliceD, bound, Nat.add_assoc, szL, ldL, setCs0, setCs1, setCs2, setCsA2, setCsA3, ldM, fM0, fM1, szM, zM, plM0, plM1, agM, paM, ldJ, fJ0, fJ1, fJ2, szJ, zJ, plJ0, plJ1, plJ2, agJ, paJ, h1, h2]
  repeat refine ⟨by kernel_rfl, by kernel_rfl, ?_⟩
  simp [mvcgen_simp, -map_replicate, -map_set, -map_append, -map_reverse, -map_take, -map_drop, -map_tail, -any_map, -all_map, -mapM_map, -map_map, Try.f100, szL, ldL, setCs0, setCs1, setCs2, setCsA2, setCsA3, ldM, fM0, fM1, szM, zM, plM0, plM1, agM, paM, ldJ, fJ0, fJ1, fJ2, szJ, zJ, plJ0, plJ1, plJ2, agJ, paJ, ctJ, loadD, viewN, isLR, hasU]
end Go.Proofs.Ytacfkfdnncgjcaa.Ev

set_option linter.unusedSimpArgs false
set_option linter.unusedVariables false
namespace Go.Proofs.Ytacfkfdnncgjcaa.Ev
open Go Go.Proofs
open List (map_replicate map_set map_append map_reverse map_take map_drop map_tail any_map all_map mapM_map map_map)
set_option maxRecDepth 4000
set_option maxHeartbeats 4000000

theorem run_l01Fine (p : Int) : runv E1 93 [(V.int .i64 (p))] = some ⟨true, (V.int .i64 (if primeB p then p else 7)), [.undef]⟩ := by
  have h1 := up (run_l01Prime p)
  have cdk : codeOk Try.f93.ntmps (Try.f93.body.getD .skip) = true := by kernel_rfl
  refine run_of_WLr (fn := Try.f93) rfl Try.func93 rfl ⟨by simp [Try.ntmps93], by simp [wideA, ints], cdk, by simp [Try.f93]⟩ rfl (by simp [rebOk, noId, adoptT, adoptA, adoptL, adoptC, depth]) ?_
  cases e : primeB p <;> rw [e] at h1 <;> simp [go_sem, -map_replicate, -map_set, -map_append, -map_reverse, -map_take, -map_drop, -map_tail, -any_map, -all_map, -mapM_map, -map_map, slL, szI, ldI, zI, undL, apL, setI, rdI_get, Nat.add_one_le_iff, fillV, zeros1, zeros0, appendD, segV, lvO, goneOf, sliceD, bound, Nat.add_assoc, h1] <;> simp [mvcgen_simp, -map_replicate, -map_set, -map_append, -map_reverse, -map_take, -map_drop, -map_tail, -any_map, -all_map, -mapM_map, -map_map, Try.f93]
theorem fine_range (p : Int) : 2 ≤ (if primeB p then p else 7) ∧ (if primeB p then p else 7) ≤ 10007 := by
  cases e : primeB p with
  | false => simp
  | true => have := prime_range e; simpa using this
end Go.Proofs.Ytacfkfdnncgjcaa.Ev
