/- Functions on whole numbers, lists of them and paths that are counted, run by their texts. Conditions: none. -/
import Derived.Test.YtacfkfdnncgjcaaEvW
import Derived.Test.YtacfkfdnncgjcaaChecked
set_option linter.unusedSimpArgs false
set_option linter.unusedVariables false
namespace Go.Proofs.Ytacfkfdnncgjcaa.Ev
open Go Go.Proofs
open List (map_replicate map_set map_append map_reverse map_take map_drop map_tail any_map all_map mapM_map map_map)

/-- How arguments are handed over, by the callee. -/
def modesOf (f : FuncId) : List Nat := if f = 137 then [1] else if f = 130 then [2] else if f = 162 then [0, 2] else if f = 76 then [1] else if f = 77 then [1] else if f = 99 then [1] else if f = 100 then [1] else if f = 140 then [1] else if f = 153 then [1] else if f = 79 then [1] else if f = 75 then [1] else if f = 78 then [1] else if f = 114 then [1] else if f = 8 then [1] else if f = 139 then [1] else []
noncomputable def E0 : Env := { P := Try.prog, modes := modesOf, strict := fun _ => false, prim := fun _ _ => none }
theorem E0_P : E0.P = Try.prog := rfl
/-- The functions that are run by E0; all others are run with their objects numbered anew at the loops' heads. -/
def oldB (f : FuncId) : Bool := [15, 21, 39, 41, 42, 45, 46, 47, 49, 50, 52, 59, 60, 64, 66, 68, 69, 71, 72, 73, 76, 77, 82, 85, 86, 89, 90, 92, 94, 106, 109, 113, 115, 116, 119, 122, 123, 128, 129, 130, 131, 132, 134, 135, 137, 145, 146, 147, 148, 150, 151, 152, 156, 157, 159, 160, 161, 162].contains f
/-- The functions that write through the rows of what they are handed. -/
def strB (f : FuncId) : Bool := [158, 154].contains f
noncomputable def E2 : Env := { P := Try.prog, modes := modesOf, strict := fun _ => true, prim := fun f args => if oldB f then runv E0 f args else none }
theorem E2_P : E2.P = Try.prog := rfl
theorem E2_m (f : FuncId) : E2.modes f = modesOf f := rfl
theorem E2_s (f : FuncId) : E2.strict f = true := rfl
noncomputable def E1 : Env := { P := Try.prog, modes := modesOf, strict := fun _ => false, prim := fun f args => if oldB f then runv E0 f args else if strB f then runv E2 f args else none, reb := true }
theorem E1_P : E1.P = Try.prog := rfl
theorem E1_m (f : FuncId) : E1.modes f = modesOf f := rfl
theorem E1_s (f : FuncId) : E1.strict f = false := rfl
theorem up {f : FuncId} {args : List V} {r : Res} (h : runv E0 f args = some r) (ho : oldB f = true := by rfl) : runv E1 f args = some r :=
  runv_of_run ⟨1, by
    have e : E1.prim f args = some r := by
      show (if oldB f then runv E0 f args else if strB f then runv E2 f args else none) = some r
      rw [if_pos ho, h]
    unfold callF
    rw [e]⟩
theorem upS {f : FuncId} {args : List V} {r : Res} (h : runv E0 f args = some r) (ho : oldB f = true := by rfl) : runv E2 f args = some r :=
  runv_of_run ⟨1, by
    have e : E2.prim f args = some r := by
      show (if oldB f then runv E0 f args else none) = some r
      rw [if_pos ho, h]
    unfold callF
    rw [e]⟩
theorem up2 {f : FuncId} {args : List V} {r : Res} (h : runv E2 f args = some r) (ho : oldB f = false := by rfl) (hs : strB f = true := by rfl) : runv E1 f args = some r :=
  runv_of_run ⟨1, by
    have e : E1.prim f args = some r := by
      show (if oldB f then runv E0 f args else if strB f then runv E2 f args else none) = some r
      rw [if_neg (by rw [ho]; simp), if_pos hs, h]
    unfold callF
    rw [e]⟩
theorem E2_prims (hm : Try.prog.follows .mixedOrders = true) : PrimsOk E2 := fun f vals r h => by
  have h' : (if oldB f then runv E0 f vals else none) = some r := h
  split at h'
  · exact runv_sound (E := E0) hm (fun _ _ _ h => by cases h) h'
  · cases h'
theorem E1_prims (hm : Try.prog.follows .mixedOrders = true) : PrimsOk E1 := fun f vals r h => by
  have h' : (if oldB f then runv E0 f vals else if strB f then runv E2 f vals else none) = some r := h
  split at h'
  · exact runv_sound (E := E0) hm (fun _ _ _ h => by cases h) h'
  · split at h'
    · exact runv_sound (E := E2) hm (E2_prims hm) h'
    · cases h'
theorem E0_m (f : FuncId) : E0.modes f = modesOf f := rfl

/-! ### Lists of leaves -/
theorem mapM_leaf {α : Type} {g : α → V} {f : V → Option V} (hf : ∀ a, f (g a) = some (g a)) : ∀ l : List α, (l.map g).mapM f = some (l.map g)
  | [] => rfl
  | a :: l => by rw [List.map_cons, List.mapM_cons, hf, mapM_leaf hf l]; rfl
theorem take_map_full {α : Type} {g : α → V} {l : List α} {n : Nat} (h : l.length ≤ n) : (l.map g).take n = l.map g := List.take_of_length_le (by simpa using h)
theorem flatMap_leaf {α β : Type} {g : α → V} {f : V → List β} (hf : ∀ a, f (g a) = []) : ∀ l : List α, (l.map g).flatMap f = []
  | [] => rfl
  | a :: l => by rw [List.map_cons, List.flatMap_cons, hf, flatMap_leaf hf l]; rfl
theorem any_leaf {α : Type} {g : α → V} {f : V → Bool} (hf : ∀ a, f (g a) = false) (l : List α) : (l.map g).any f = false := by
  rw [List.any_eq_false]; intro x hx; obtain ⟨a, _, rfl⟩ := List.mem_map.1 hx; simp [hf]
theorem all_leaf {α : Type} {g : α → V} {f : V → Bool} (hf : ∀ a, f (g a) = true) (l : List α) : (l.map g).all f = true := by
  rw [List.all_eq_true]; intro x hx; obtain ⟨a, _, rfl⟩ := List.mem_map.1 hx; simp [hf]
section
variable {H : Nat → Option Ob} {d : Nat} {k : IntKind} (l : List Int) (m : List ByteArray)
theorem mapM_purN_int : (l.map (V.int k)).mapM (purN H d) = some (l.map (V.int k)) := mapM_leaf (fun _ => by cases d <;> rfl) l
theorem mapM_expN_int : (l.map (V.int k)).mapM (expN H d) = some (l.map (V.int k)) := mapM_leaf (fun _ => by cases d <;> rfl) l
theorem mapM_viewN_int : (l.map (V.int k)).mapM (viewN d) = some (l.map (V.int k)) := mapM_leaf (fun _ => by cases d <;> rfl) l
theorem flatMap_idsN_int : (l.map (V.int k)).flatMap (idsN H d) = [] := flatMap_leaf (fun _ => by cases d <;> rfl) l
theorem flatMap_eidN_int : (l.map (V.int k)).flatMap (eidN H d) = [] := flatMap_leaf (fun _ => by cases d <;> rfl) l
theorem any_hasU_int : (l.map (V.int k)).any hasU = false := any_leaf (fun _ => rfl) l
theorem all_treeN_int : (l.map (V.int k)).all (treeN d) = true := all_leaf (fun _ => by cases d <;> rfl) l
theorem mapM_purN_str : (m.map V.str).mapM (purN H d) = some (m.map V.str) := mapM_leaf (fun _ => by cases d <;> rfl) m
theorem mapM_expN_str : (m.map V.str).mapM (expN H d) = some (m.map V.str) := mapM_leaf (fun _ => by cases d <;> rfl) m
theorem flatMap_idsN_str : (m.map V.str).flatMap (idsN H d) = [] := flatMap_leaf (fun _ => by cases d <;> rfl) m
theorem flatMap_eidN_str : (m.map V.str).flatMap (eidN H d) = [] := flatMap_leaf (fun _ => by cases d <;> rfl) m
theorem any_hasU_str : (m.map V.str).any hasU = false := any_leaf (fun _ => rfl) m
theorem all_treeN_str : (m.map V.str).all (treeN d) = true := all_leaf (fun _ => by cases d <;> rfl) m
end

/-- An object of the frame is none of those that come. -/
theorem ne_new {id nx : Nat} (h : id < nx) (n : Nat) : (id = nx + n) = False := by simp; omega
theorem new_ne {id nx : Nat} (h : id < nx) (n : Nat) : (nx + n = id) = False := by simp; omega

/-! ### States at loops' heads -/
section
variable (tbl : List (Nat × V)) (objs : List (Option Ob)) (rs t : Nat)
theorem mkSt_fr : (mkSt tbl objs rs).fr t = lookF tbl t := rfl
theorem mkSt_H : (mkSt tbl objs rs).H t = objs.getD t none := rfl
theorem mkSt_nx : (mkSt tbl objs rs).nx = 64 := rfl
theorem mkSt_rs : (mkSt tbl objs rs).rs = rs := rfl
end
theorem canon_mk {keep : List Nat} {st : St} {tbl : List (Nat × V)} {objs : List (Option Ob)} {rs : Nat}
    (h : ∃ ord, ordOf keep st.fr st.H = ord ∧ nodupB ord = true ∧ ord.length ≤ 64 ∧ keep.map (fun t => (t, renV ord st.H depth (st.fr t))) = tbl ∧ ord.map (fun id => (st.H id).map (renO ord st.H)) = objs ∧ st.rs = rs) (hb : rs.testBit 0 = false := by kernel_rfl) : canon keep st = mkSt tbl objs rs := by
  obtain ⟨ord, h1, h2, h3, h4, h5, h6⟩ := h
  unfold canon canonW
  rw [h1, h2, decide_eq_true h3, h4, h5, h6, hb]
  rfl
/-- The same where the first argument is a pointer that was handed over. -/
theorem canon_mkP {keep : List Nat} {st : St} {tbl : List (Nat × V)} {objs : List (Option Ob)} {rs : Nat}
    (h : ∃ ord, ordOf keep st.fr st.H = ord ∧ nodupB ord = true ∧ ord.length ≤ 64 ∧ keep.map (fun t => (t, renV ord st.H depth (st.fr t))) = tbl ∧ ord.map (fun id => (st.H id).map (renO ord st.H)) = objs ∧ st.rs = rs ∧ pinH ord st.H = true) : canon keep st = mkSt tbl objs rs := by
  obtain ⟨ord, h1, h2, h3, h4, h5, h6, h7⟩ := h
  unfold canon canonW
  rw [h1, h2, decide_eq_true h3, h4, h5, h6, h7, Bool.or_true]
  rfl
section
variable {ord : List Nat} {H : Nat → Option Ob} {d : Nat} {k : IntKind} (l : List Int)
theorem ordIds_int : (l.map (V.int k)).flatMap (idsF d) = [] := flatMap_leaf (fun _ => by cases d <;> rfl) l
theorem ordRen_int : (l.map (V.int k)).map (renC ord H) = l.map (V.int k) := by
  rw [List.map_map]; exact List.map_congr_left fun a _ => rfl
end

/-! ### Loops that count -/
theorem WL_count {E : Env} {s : Bool} {Q : St → Prop} {k : List Item} {b : Code} (I : Nat → St → Prop) (n : Nat)
    (step : ∀ i st, i < n → I i st → (∀ st', I (i + 1) st' → WL E s (.inLoop b :: k) Q st') → WL E s (.code b :: .inLoop b :: k) Q st)
    (last : ∀ st, I n st → WL E s (.code b :: .inLoop b :: k) Q st) : ∀ i st, i ≤ n → I i st → (hr : E.reb = false := by rfl) → WL E s (.inLoop b :: k) Q st := by
  intro i st hi h hr
  refine WL_rounds (I := fun j st => j ≤ n ∧ I (n - j) st) ?_ (n - i) st ⟨by omega, by rw [show n - (n - i) = i by omega]; exact h⟩ hr
  rintro j st ⟨hj, h⟩ next
  by_cases h0 : j = 0
  · subst h0
    exact last st h
  · refine step (n - j) st (by omega) h fun st' h' => next (j - 1) st' (by omega) ⟨by omega, ?_⟩
    rw [show n - (j - 1) = n - j + 1 by omega]
    exact h'
theorem E0_s (f : FuncId) : E0.strict f = false := rfl

/-! ### Types -/
theorem ctBool : cellTys Try.prog 4 = [none] := by kernel_rfl
theorem undI64 : Try.prog.underlying 2 = some (.int .i64) := by kernel_rfl
theorem undInt : Try.prog.underlying 3 = some (.int .i64) := by kernel_rfl
theorem undBool : Try.prog.underlying 4 = some .bool := by kernel_rfl
theorem ctInt : cellTys Try.prog 3 = [none] := by kernel_rfl
theorem ctI64 : cellTys Try.prog 2 = [none] := by kernel_rfl
theorem ctL : cellTys Try.prog 27 = [some 1] := by kernel_rfl
theorem slL : slT Try.prog 27 = some (2, 1, 8) := by kernel_rfl
theorem ldI : ldT Try.prog 2 = some (false, 1) := by kernel_rfl
theorem szI : szT Try.prog 2 = some 1 := by kernel_rfl
theorem zI : zeroT Try.prog 2 = some [.int .i64 0] := by kernel_rfl
theorem undL : Try.prog.underlying 27 = some (.slice 2) := by kernel_rfl
theorem ldF : ldT Try.prog 92 = some (false, 1) := by kernel_rfl

theorem apL : apT Try.prog 27 = some (2, 1, 8) := by kernel_rfl
theorem zeros0 (z : List V) : zerosV 0 z = [] := by simp [zerosV]
theorem zeros1 : zerosV 1 [V.int .i64 0] = [.int .i64 0] := rfl

/-! ### Lists of whole numbers -/
def ints (l : List Int) : V := .list l.length (l.map (V.int .i64))
def row (l : List Int) : Ob := ⟨0, 2, 1, l.map (V.int .i64)⟩
def rdI (l : List Int) (i : Nat) : Int := l.getD i 0
theorem getI {l : List Int} {i : Nat} (h : i < l.length) : l[i]? = some (rdI l i) := by
  unfold rdI; simp [h]
theorem rdI_get {l : List Int} {i : Nat} (h : i < l.length) : l[i] = rdI l i := by
  unfold rdI; simp [h]
theorem rdI_ne {l : List Int} {i j : Nat} {x : Int} (h : j ≠ i) : rdI (l.set j x) i = rdI l i := by
  unfold rdI; simp [h]
theorem setI {kd : IntKind} {l : List Int} {i : Nat} {x : Int} (h : i < l.length) : setCs (l.map (V.int kd)) i [V.int kd x] = (l.set i x).map (V.int kd) := by
  unfold setCs
  rw [List.map_set, List.set_eq_take_append_cons_drop]
  simp [h]
theorem zerosI (n : Nat) : zerosV n [V.int .i64 0] = (List.replicate n 0).map (V.int .i64) := by
  apply List.ext_getElem
  · simp [zerosV]
  · intro i h1 h2
    simp [zerosV, Nat.mod_one]

theorem mapM_ints {f : V → Option V} (hf : ∀ n, f (.int .i64 n) = some (.int .i64 n)) : ∀ l : List Int, (l.map (V.int .i64)).mapM f = some (l.map (V.int .i64))
  | [] => rfl
  | a :: l => by rw [List.map_cons, List.mapM_cons, hf, mapM_ints hf l]; rfl
theorem exp_row {H : Nat → Option Ob} {id n : Nat} {l : List Int} (h : H id = some (row l)) (hn : n = l.length) : expN H 6 (.sl id 0 0 n) = some (.uniq 1 n (l.map (V.int .i64))) := by
  subst hn
  have h1 : (l.map (V.int .i64)).take (l.length * 1) = l.map (V.int .i64) := by rw [List.take_of_length_le (by simp)]
  simp only [expN, getO, h, row, if_true, h1, mapM_ints (f := expN H 5) (fun n => rfl) l]
  simp
theorem eid_row {H : Nat → Option Ob} {id n : Nat} {l : List Int} (h : H id = some (row l)) : eidN H 6 (.sl id 0 0 n) = [id] := by
  have h1 : ∀ l : List Int, (l.map (V.int .i64)).flatMap (eidN H 5) = [] := fun l => by
    induction l with
    | nil => rfl
    | cons a l ih => rw [List.map_cons, List.flatMap_cons, ih]; rfl
  simp only [eidN, getO, h, row, if_true, ← List.map_take, h1]
theorem tree_ints (n : Nat) (l : List Int) : treeN 6 (.uniq 1 n (l.map (V.int .i64))) = true := by
  simp [treeN]

set_option maxRecDepth 4000
set_option maxHeartbeats 4000000

attribute [go_sem] WL_nil WL_seq WL_region WL_ret WL_skip WL_block WL_inBlock WL_cond WC_t WC_f WL_label WL_exitX WL_gotoX WX_some WL_scope WL_inScope WL_regionD WO_cons WO_nil WD_some WOd_cons WOd_nil WDd_some List.nil_append List.cons_append stepD wantV opD ev V.ofC V.ofS ret binV intOp unV St.app updO upd appW E0_P E0_m E0_s E1_P E1_m E1_s E2_P E2_m E2_s mkSt_fr mkSt_H mkSt_nx mkSt_rs lookF modesOf callOp evL calleeV callD prepL prepA purN idsN isRefV flatO backW adopt adoptA adoptC adoptL adoptT widthOk wideA freezeW depth noTup nodupB treeN St.enter exitTo gotoIn findLabel getO lenV bltD loadD viewN V.cells storeD mvC expN eidN hasU optE sliceNil eqV isC isLR mapM_purN_int mapM_expN_int mapM_viewN_int flatMap_idsN_int flatMap_eidN_int any_hasU_int all_treeN_int mapM_purN_str mapM_expN_str flatMap_idsN_str flatMap_eidN_str any_hasU_str all_treeN_str ownX ownI backO backL take_map_full ptrU
attribute [mvcgen_simp] Ends finish onlyP finPtr anyU ptrU ownI isLR finFresh finRead resV expN treeN eidN outs outA outC outL outsI outAI outI outIL nodupB depth normR normA normL normC noTup oneV purN idsN upd E0_P E1_P E2_P mkSt_fr mkSt_H mkSt_nx mkSt_rs lookF flatO disjN getO mapM_purN_int mapM_expN_int flatMap_idsN_int flatMap_eidN_int any_hasU_int all_treeN_int mapM_purN_str mapM_expN_str flatMap_idsN_str flatMap_eidN_str any_hasU_str all_treeN_str ctBool ctInt ctI64 ctL take_map_full
attribute [method_specs_simp] ordOf dedupA idsF inside renV renI renC renO posN noId mkSt_fr mkSt_H mkSt_nx mkSt_rs lookF nodupB depth upd ordIds_int ordRen_int appW

theorem run_within (n lo hi : Int) : runv E0 46 [.int .i64 n, .int .i64 lo, .int .i64 hi] = some ⟨true, .bool (decide (lo ≤ n) && decide (n ≤ hi)), [.undef, .undef, .undef]⟩ := by
  have cdk : codeOk Try.f46.ntmps (Try.f46.body.getD .skip) = true := by kernel_rfl
  refine run_of_WL (fn := Try.f46) rfl Try.func46 rfl ⟨by simp [Try.ntmps46], by simp [wideA, ints], cdk, by simp [Try.f46]⟩ ?_
  by_cases h1 : lo ≤ n <;> simp [go_sem, -map_replicate, -map_set, -map_append, -map_reverse, -map_take, -map_drop, -map_tail, -any_map, -all_map, -mapM_map, -map_map, h1] <;> simp [mvcgen_simp, -map_replicate, -map_set, -map_append, -map_reverse, -map_take, -map_drop, -map_tail, -any_map, -all_map, -mapM_map, -map_map, Try.f46, ctBool]

theorem run_IndexFunc (l : List Int) (g : FuncId) (fi ca : List V) (p : Int → Bool) (hl : l.length ≤ 9223372036854775807) (hc : ∀ H b x, callD H b false (modesOf g) (runv E0 g) (fi ++ V.int .i64 x :: ca) = some { v := .bool (p x) }) :
    runv E0 159 [ints l, .func (.func g) fi ca] = some ⟨true, .int .i64 (match l.findIdx? p with | some i => (i : Int) | none => -1), [.undef, .undef]⟩ := by
  have cdk : codeOk Try.f159.ntmps (Try.f159.body.getD .skip) = true := by kernel_rfl
  refine run_of_WL (fn := Try.f159) rfl Try.func159 rfl ⟨by simp [Try.ntmps159], by simp [wideA, ints], cdk, by simp [Try.f159]⟩ ?_
  simp [go_sem, -map_replicate, -map_set, -map_append, -map_reverse, -map_take, -map_drop, -map_tail, -any_map, -all_map, -mapM_map, -map_map, undL, ints]
  rw [WL_loop]
  refine WL_rounds (I := fun j st => ∃ i : Nat, j + i = l.length ∧ st.fr 0 = ints l ∧ st.fr 1 = .func (.func g) fi ca ∧ st.fr 7 = .int .i64 l.length ∧ st.fr 8 = .int .i64 i ∧ st.H = (fun _ => none) ∧ (∀ k (hk : k < l.length), k < i → p l[k] = false)) ?_ l.length _ ?_
  · rintro j st ⟨i, hj, h0, h1, h7, h8, hH, hk⟩ next
    by_cases hi : i < l.length
    · cases hp : p l[i] with
      | true =>
        simp [WL_nil, WL_seq, WL_region, WL_ret, WL_skip, WL_block, WL_inBlock, WL_cond, WC_t, WC_f, WL_label, WL_exitX, WL_gotoX, WX_some, WL_scope, WL_inScope, WL_regionD, WO_cons, WO_nil, WD_some, WOd_cons, WOd_nil, WDd_some, List.nil_append, List.cons_append, stepD, wantV, opD, ev, V.ofC, V.ofS, ret, binV, intOp, unV, St.app, updO, upd, appW, E0_P, E0_m, E0_s, E1_P, E1_m, E1_s, E2_P, E2_m, E2_s, mkSt_fr, mkSt_H, mkSt_nx, mkSt_rs, lookF, callOp, evL, calleeV, widthOk, wideA, freezeW, depth, noTup, nodupB, treeN, St.enter, exitTo, gotoIn, findLabel, getO, lenV, bltD, loadD, viewN, V.cells, storeD, mvC, expN, eidN, hasU, optE, sliceNil, eqV, isC, isLR, mapM_purN_int, mapM_expN_int, mapM_viewN_int, flatMap_idsN_int, flatMap_eidN_int, any_hasU_int, all_treeN_int, mapM_purN_str, mapM_expN_str, flatMap_idsN_str, flatMap_eidN_str, any_hasU_str, all_treeN_str, ownX, ownI, backO, backL, take_map_full, -map_replicate, -map_set, -map_append, -map_reverse, -map_take, -map_drop, -map_tail, -any_map, -all_map, -mapM_map, -map_map, h0, h1, h7, h8, hH, hi, ints, slL, ldI, undL, hc, hp]
        simp [mvcgen_simp, -map_replicate, -map_set, -map_append, -map_reverse, -map_take, -map_drop, -map_tail, -any_map, -all_map, -mapM_map, -map_map, Try.f159, ctInt]
        have : l.findIdx? p = some i := by
          rw [List.findIdx?_eq_some_iff_getElem]
          exact ⟨hi, hp, fun j hj => by rw [hk j (by omega) hj]; simp⟩
        rw [this]
      | false =>
        simp [WL_nil, WL_seq, WL_region, WL_ret, WL_skip, WL_block, WL_inBlock, WL_cond, WC_t, WC_f, WL_label, WL_exitX, WL_gotoX, WX_some, WL_scope, WL_inScope, WL_regionD, WO_cons, WO_nil, WD_some, WOd_cons, WOd_nil, WDd_some, List.nil_append, List.cons_append, stepD, wantV, opD, ev, V.ofC, V.ofS, ret, binV, intOp, unV, St.app, updO, upd, appW, E0_P, E0_m, E0_s, E1_P, E1_m, E1_s, E2_P, E2_m, E2_s, mkSt_fr, mkSt_H, mkSt_nx, mkSt_rs, lookF, callOp, evL, calleeV, widthOk, wideA, freezeW, depth, noTup, nodupB, treeN, St.enter, exitTo, gotoIn, findLabel, getO, lenV, bltD, loadD, viewN, V.cells, storeD, mvC, expN, eidN, hasU, optE, sliceNil, eqV, isC, isLR, mapM_purN_int, mapM_expN_int, mapM_viewN_int, flatMap_idsN_int, flatMap_eidN_int, any_hasU_int, all_treeN_int, mapM_purN_str, mapM_expN_str, flatMap_idsN_str, flatMap_eidN_str, any_hasU_str, all_treeN_str, ownX, ownI, backO, backL, take_map_full, -map_replicate, -map_set, -map_append, -map_reverse, -map_take, -map_drop, -map_tail, -any_map, -all_map, -mapM_map, -map_map, h0, h1, h7, h8, hH, hi, ints, slL, ldI, undL, hc, hp]
        refine next (j - 1) _ (by omega) ⟨i + 1, by omega, ?_⟩
        simp [upd, h0, h1, h7, h8, hH]
        refine ⟨IntWalk.i64_in _ (by omega), fun k hk1 hk2 => ?_⟩
        by_cases e : k = i
        · subst e; exact hp
        · exact hk k hk1 (by omega)
    · simp [WL_nil, WL_seq, WL_region, WL_ret, WL_skip, WL_block, WL_inBlock, WL_cond, WC_t, WC_f, WL_label, WL_exitX, WL_gotoX, WX_some, WL_scope, WL_inScope, WL_regionD, WO_cons, WO_nil, WD_some, WOd_cons, WOd_nil, WDd_some, List.nil_append, List.cons_append, stepD, wantV, opD, ev, V.ofC, V.ofS, ret, binV, intOp, unV, St.app, updO, upd, appW, E0_P, E0_m, E0_s, E1_P, E1_m, E1_s, E2_P, E2_m, E2_s, mkSt_fr, mkSt_H, mkSt_nx, mkSt_rs, lookF, callOp, evL, calleeV, widthOk, wideA, freezeW, depth, noTup, nodupB, treeN, St.enter, exitTo, gotoIn, findLabel, getO, lenV, bltD, loadD, viewN, V.cells, storeD, mvC, expN, eidN, hasU, optE, sliceNil, eqV, isC, isLR, mapM_purN_int, mapM_expN_int, mapM_viewN_int, flatMap_idsN_int, flatMap_eidN_int, any_hasU_int, all_treeN_int, mapM_purN_str, mapM_expN_str, flatMap_idsN_str, flatMap_eidN_str, any_hasU_str, all_treeN_str, ownX, ownI, backO, backL, take_map_full, -map_replicate, -map_set, -map_append, -map_reverse, -map_take, -map_drop, -map_tail, -any_map, -all_map, -mapM_map, -map_map, h0, h1, h7, h8, hH, hi, ints, slL]
      simp [mvcgen_simp, -map_replicate, -map_set, -map_append, -map_reverse, -map_take, -map_drop, -map_tail, -any_map, -all_map, -mapM_map, -map_map, Try.f159, ctInt]
      have : l.findIdx? p = none := by
        rw [List.findIdx?_eq_none_iff_findIdx_eq, List.findIdx_eq_length]
        intro x hx
        obtain ⟨k, hk1, rfl⟩ := List.getElem_of_mem hx
        rw [hk k hk1 (by omega)]
      rw [this]
  · refine ⟨0, by simp, ?_⟩
    simp [ints, upd]

theorem index_any (l : List Int) (p : Int → Bool) : decide (0 ≤ (match l.findIdx? p with | some i => (i : Int) | none => -1)) = l.any p := by
  cases h : l.findIdx? p with
  | none =>
    have : l.any p = false := by
      rw [List.findIdx?_eq_none_iff] at h
      rw [List.any_eq_false]
      intro x hx; simpa using h x hx
    rw [this]; decide
  | some i =>
    have : l.any p = true := by
      rw [List.findIdx?_eq_some_iff_getElem] at h
      obtain ⟨hi, hp, _⟩ := h
      exact List.any_eq_true.2 ⟨_, List.getElem_mem hi, hp⟩
    rw [this]; simp
end Go.Proofs.Ytacfkfdnncgjcaa.Ev
