/- Functions on whole numbers, lists of them and paths that are counted, run by their texts. Conditions: none. -/
import Derived.Test.YtcmakjkilebhnaaEvU
import Derived.Test.YtcmakjkilebhnaaChecked
set_option linter.unusedSimpArgs false
set_option linter.unusedVariables false
namespace Go.Proofs.Ytcmakjkilebhnaa.Ev
open Go Go.Proofs

noncomputable def E0 : Env := { P := Try.prog, modes := fun _ => [], strict := fun _ => false, prim := fun _ _ => none }
theorem E0_P : E0.P = Try.prog := rfl
theorem E0_m (f : FuncId) : E0.modes f = [] := rfl
theorem E0_s (f : FuncId) : E0.strict f = false := rfl

/-! ### Types -/
theorem ctBool : cellTys Try.prog 4 = [none] := by kernel_rfl
theorem ctInt : cellTys Try.prog 3 = [none] := by kernel_rfl
theorem ctI64 : cellTys Try.prog 2 = [none] := by kernel_rfl
theorem ctL : cellTys Try.prog 30 = [some 1] := by kernel_rfl
theorem slL : slT Try.prog 30 = some (2, 1, 8) := by kernel_rfl
theorem ldI : ldT Try.prog 2 = some (false, 1) := by kernel_rfl
theorem szI : szT Try.prog 2 = some 1 := by kernel_rfl
theorem zI : zeroT Try.prog 2 = some [.int .i64 0] := by kernel_rfl
theorem undL : Try.prog.underlying 30 = some (.slice 2) := by kernel_rfl
theorem ldF : ldT Try.prog 58 = some (false, 1) := by kernel_rfl

/-! ### Lists of whole numbers -/
def ints (l : List Int) : V := .list l.length (l.map (V.int .i64))
def row (l : List Int) : Ob := ⟨0, 2, 1, l.map (V.int .i64)⟩
def rdI (l : List Int) (i : Nat) : Int := l.getD i 0
theorem getI {l : List Int} {i : Nat} (h : i < l.length) : l[i]? = some (rdI l i) := by
  unfold rdI; simp [h]
theorem rdI_get {l : List Int} {i : Nat} (h : i < l.length) : l[i] = rdI l i := by
  unfold rdI; simp [h]
theorem rdI_ne {l : List Int} {i j : Nat} {x : Int} (h : j ≠ i) : rdI (l.set j x) i = rdI l i := by
  unfold rdI; simp [h]
theorem setI {l : List Int} {i : Nat} {x : Int} (h : i < l.length) : setCs (l.map (V.int .i64)) i [V.int .i64 x] = (l.set i x).map (V.int .i64) := by
  unfold setCs
  rw [List.map_set, List.set_eq_take_append_cons_drop]
  simp [h]
theorem zerosI (n : Nat) : zerosV n [V.int .i64 0] = (List.replicate n 0).map (V.int .i64) := by
  apply List.ext_getElem
  · simp [zerosV]
  · intro i h1 h2
    simp [zerosV, Nat.mod_one]

theorem mapM_ints {f : V → Option V} (hf : ∀ n, f (.int .i64 n) = some (.int .i64 n)) : ∀ l : List Int, (l.map (V.int .i64)).mapM f = some (l.map (V.int .i64))
  | [] => rfl
  | a :: l => by rw [List.map_cons, List.mapM_cons, hf, mapM_ints hf l]; rfl
theorem exp_row {H : Nat → Option Ob} {id n : Nat} {l : List Int} (h : H id = some (row l)) (hn : n = l.length) : expN H 6 (.sl id 0 0 n) = some (.uniq 1 n (l.map (V.int .i64))) := by
  subst hn
  have h1 : (l.map (V.int .i64)).take (l.length * 1) = l.map (V.int .i64) := by rw [List.take_of_length_le (by simp)]
  simp only [expN, getO, h, row, if_true, h1, mapM_ints (f := expN H 5) (fun n => rfl) l]
  simp
theorem eid_row {H : Nat → Option Ob} {id n : Nat} {l : List Int} (h : H id = some (row l)) : eidN H 6 (.sl id 0 0 n) = [id] := by
  have h1 : ∀ l : List Int, (l.map (V.int .i64)).flatMap (eidN H 5) = [] := fun l => by
    induction l with
    | nil => rfl
    | cons a l ih => rw [List.map_cons, List.flatMap_cons, ih]; rfl
  simp only [eidN, getO, h, row, if_true, ← List.map_take, h1]
theorem tree_ints (n : Nat) (l : List Int) : treeN 6 (.uniq 1 n (l.map (V.int .i64))) = true := by
  simp [treeN]

set_option maxRecDepth 4000
set_option maxHeartbeats 4000000

theorem run_within (n lo hi : Int) : runv E0 45 [.int .i64 n, .int .i64 lo, .int .i64 hi] = some ⟨true, .bool (decide (lo ≤ n) && decide (n ≤ hi)), [.undef, .undef, .undef]⟩ := by
  have c : codeOk Try.f45.ntmps (Try.f45.body.getD .skip) = true := by kernel_rfl
  refine run_of_WL (fn := Try.f45) rfl Try.func45 rfl ⟨by simp [Try.ntmps45], by simp [wideA, ints], c, by simp [Try.f45]⟩ ?_
  by_cases h1 : lo ≤ n <;> simp [WL_seq, WL_region, WL_ret, WL_skip, WL_block, WL_inBlock, WL_cond, WC_t, WC_f, WL_label, WL_exitX, WL_gotoX, WX_some, WL_scope, WL_inScope, WL_regionD, WO_cons, WO_nil, WD_some, WOd_cons, WOd_nil, WDd_some, List.nil_append, List.cons_append, stepD, wantV, opD, ev, V.ofC, V.ofS, ret, binV, intOp, unV, St.app, updO, upd, appW, E0_P, E0_m, E0_s, callOp, evL, calleeV, callD, prepL, prepA, purN, idsN, isRefV, flatO, backW, adopt, adoptA, adoptC, adoptL, adoptT, widthOk, wideA, freezeW, depth, noTup, nodupB, treeN, St.enter, exitTo, gotoIn, findLabel, getO, lenV, bltD, loadD, viewN, V.cells, storeD, mvC, expN, eidN, hasU, optE, -List.map_replicate, -List.map_set, h1] <;> simp [Ends, finish, finFresh, finRead, resV, expN, treeN, eidN, outs, outA, outC, outL, outsI, outAI, outI, outIL, nodupB, depth, normR, normA, normL, normC, noTup, oneV, purN, idsN, upd, E0_P, flatO, disjN, -List.map_replicate, -List.map_set, Try.f45, ctBool]

theorem run_isLength (n : Int) : runv E0 44 [.int .i64 n] = some ⟨true, .bool (decide (0 ≤ n) && decide (n ≤ 24)), [.undef]⟩ := by
  have c : codeOk Try.f44.ntmps (Try.f44.body.getD .skip) = true := by kernel_rfl
  refine run_of_WL (fn := Try.f44) rfl Try.func44 rfl ⟨by simp [Try.ntmps44], by simp [wideA, ints], c, by simp [Try.f44]⟩ ?_
  simp [WL_seq, WL_region, WL_ret, WL_skip, WL_block, WL_inBlock, WL_cond, WC_t, WC_f, WL_label, WL_exitX, WL_gotoX, WX_some, WL_scope, WL_inScope, WL_regionD, WO_cons, WO_nil, WD_some, WOd_cons, WOd_nil, WDd_some, List.nil_append, List.cons_append, stepD, wantV, opD, ev, V.ofC, V.ofS, ret, binV, intOp, unV, St.app, updO, upd, appW, E0_P, E0_m, E0_s, callOp, evL, calleeV, callD, prepL, prepA, purN, idsN, isRefV, flatO, backW, adopt, adoptA, adoptC, adoptL, adoptT, widthOk, wideA, freezeW, depth, noTup, nodupB, treeN, St.enter, exitTo, gotoIn, findLabel, getO, lenV, bltD, loadD, viewN, V.cells, storeD, mvC, expN, eidN, hasU, optE, -List.map_replicate, -List.map_set, run_within]
  simp [Ends, finish, finFresh, finRead, resV, expN, treeN, eidN, outs, outA, outC, outL, outsI, outAI, outI, outIL, nodupB, depth, normR, normA, normL, normC, noTup, oneV, purN, idsN, upd, E0_P, flatO, disjN, -List.map_replicate, -List.map_set, Try.f44, ctBool]

theorem run_IndexFunc (l : List Int) (g : FuncId) (fi ca : List V) (p : Int → Bool) (hl : l.length ≤ 4611686018427387904) (hc : ∀ H b x, callD H b false [] (runv E0 g) (fi ++ V.int .i64 x :: ca) = some { v := .bool (p x) }) :
    runv E0 60 [ints l, .func (.func g) fi ca] = some ⟨true, .int .i64 (match l.findIdx? p with | some i => (i : Int) | none => -1), [.undef, .undef]⟩ := by
  have c : codeOk Try.f60.ntmps (Try.f60.body.getD .skip) = true := by kernel_rfl
  refine run_of_WL (fn := Try.f60) rfl Try.func60 rfl ⟨by simp [Try.ntmps60], by simp [wideA, ints], c, by simp [Try.f60]⟩ ?_
  simp [WL_seq, WL_region, WL_ret, WL_skip, WL_block, WL_inBlock, WL_cond, WC_t, WC_f, WL_label, WL_exitX, WL_gotoX, WX_some, WL_scope, WL_inScope, WL_regionD, WO_cons, WO_nil, WD_some, WOd_cons, WOd_nil, WDd_some, List.nil_append, List.cons_append, stepD, wantV, opD, ev, V.ofC, V.ofS, ret, binV, intOp, unV, St.app, updO, upd, appW, E0_P, E0_m, E0_s, callOp, evL, calleeV, callD, prepL, prepA, purN, idsN, isRefV, flatO, backW, adopt, adoptA, adoptC, adoptL, adoptT, widthOk, wideA, freezeW, depth, noTup, nodupB, treeN, St.enter, exitTo, gotoIn, findLabel, getO, lenV, bltD, loadD, viewN, V.cells, storeD, mvC, expN, eidN, hasU, optE, -List.map_replicate, -List.map_set, undL, ints]
  rw [WL_loop]
  refine WL_rounds (I := fun j st => ∃ i : Nat, j + i = l.length ∧ st.fr 0 = ints l ∧ st.fr 1 = .func (.func g) fi ca ∧ st.fr 7 = .int .i64 l.length ∧ st.fr 8 = .int .i64 i ∧ st.H = (fun _ => none) ∧ (∀ k (hk : k < l.length), k < i → p l[k] = false)) ?_ l.length _ ?_
  · rintro j st ⟨i, hj, h0, h1, h7, h8, hH, hk⟩ next
    by_cases hi : i < l.length
    · cases hp : p l[i] with
      | true =>
        simp [WL_seq, WL_region, WL_ret, WL_skip, WL_block, WL_inBlock, WL_cond, WC_t, WC_f, WL_label, WL_exitX, WL_gotoX, WX_some, WL_scope, WL_inScope, WL_regionD, WO_cons, WO_nil, WD_some, WOd_cons, WOd_nil, WDd_some, List.nil_append, List.cons_append, stepD, wantV, opD, ev, V.ofC, V.ofS, ret, binV, intOp, unV, St.app, updO, upd, appW, E0_P, E0_m, E0_s, callOp, evL, calleeV, widthOk, wideA, freezeW, depth, noTup, nodupB, treeN, St.enter, exitTo, gotoIn, findLabel, getO, lenV, bltD, loadD, viewN, V.cells, storeD, mvC, expN, eidN, hasU, optE, -List.map_replicate, -List.map_set, h0, h1, h7, h8, hH, hi, ints, slL, ldI, undL, hc, hp]
        simp [Ends, finish, finFresh, finRead, resV, expN, treeN, eidN, outs, outA, outC, outL, outsI, outAI, outI, outIL, nodupB, depth, normR, normA, normL, normC, noTup, oneV, purN, idsN, upd, E0_P, flatO, disjN, -List.map_replicate, -List.map_set, Try.f60, ctInt]
        have : l.findIdx? p = some i := by
          rw [List.findIdx?_eq_some_iff_getElem]
          exact ⟨hi, hp, fun j hj => by rw [hk j (by omega) hj]; simp⟩
        rw [this]
      | false =>
        simp [WL_seq, WL_region, WL_ret, WL_skip, WL_block, WL_inBlock, WL_cond, WC_t, WC_f, WL_label, WL_exitX, WL_gotoX, WX_some, WL_scope, WL_inScope, WL_regionD, WO_cons, WO_nil, WD_some, WOd_cons, WOd_nil, WDd_some, List.nil_append, List.cons_append, stepD, wantV, opD, ev, V.ofC, V.ofS, ret, binV, intOp, unV, St.app, updO, upd, appW, E0_P, E0_m, E0_s, callOp, evL, calleeV, widthOk, wideA, freezeW, depth, noTup, nodupB, treeN, St.enter, exitTo, gotoIn, findLabel, getO, lenV, bltD, loadD, viewN, V.cells, storeD, mvC, expN, eidN, hasU, optE, -List.map_replicate, -List.map_set, h0, h1, h7, h8, hH, hi, ints, slL, ldI, undL, hc, hp]
        refine next (j - 1) _ (by omega) ⟨i + 1, by omega, ?_⟩
        simp [upd, h0, h1, h7, h8, hH]
        refine ⟨IntWalk.i64_in _ (by omega), fun k hk1 hk2 => ?_⟩
        by_cases e : k = i
        · subst e; exact hp
        · exact hk k hk1 (by omega)
    · simp [WL_seq, WL_region, WL_ret, WL_skip, WL_block, WL_inBlock, WL_cond, WC_t, WC_f, WL_label, WL_exitX, WL_gotoX, WX_some, WL_scope, WL_inScope, WL_regionD, WO_cons, WO_nil, WD_some, WOd_cons, WOd_nil, WDd_some, List.nil_append, List.cons_append, stepD, wantV, opD, ev, V.ofC, V.ofS, ret, binV, intOp, unV, St.app, updO, upd, appW, E0_P, E0_m, E0_s, callOp, evL, calleeV, widthOk, wideA, freezeW, depth, noTup, nodupB, treeN, St.enter, exitTo, gotoIn, findLabel, getO, lenV, bltD, loadD, viewN, V.cells, storeD, mvC, expN, eidN, hasU, optE, -List.map_replicate, -List.map_set, h0, h1, h7, h8, hH, hi, ints, slL]
      simp [Ends, finish, finFresh, finRead, resV, expN, treeN, eidN, outs, outA, outC, outL, outsI, outAI, outI, outIL, nodupB, depth, normR, normA, normL, normC, noTup, oneV, purN, idsN, upd, E0_P, flatO, disjN, -List.map_replicate, -List.map_set, Try.f60, ctInt]
      have : l.findIdx? p = none := by
        rw [List.findIdx?_eq_none_iff_findIdx_eq, List.findIdx_eq_length]
        intro x hx
        obtain ⟨k, hk1, rfl⟩ := List.getElem_of_mem hx
        rw [hk k hk1 (by omega)]
      rw [this]
  · refine ⟨0, by simp, ?_⟩
    simp [ints, upd]

theorem index_any (l : List Int) (p : Int → Bool) : decide (0 ≤ (match l.findIdx? p with | some i => (i : Int) | none => -1)) = l.any p := by
  cases h : l.findIdx? p with
  | none =>
    have : l.any p = false := by
      rw [List.findIdx?_eq_none_iff] at h
      rw [List.any_eq_false]
      intro x hx; simpa using h x hx
    rw [this]; decide
  | some i =>
    have : l.any p = true := by
      rw [List.findIdx?_eq_some_iff_getElem] at h
      obtain ⟨hi, hp, _⟩ := h
      exact List.any_eq_true.2 ⟨_, List.getElem_mem hi, hp⟩
    rw [this]; simp
end Go.Proofs.Ytcmakjkilebhnaa.Ev
