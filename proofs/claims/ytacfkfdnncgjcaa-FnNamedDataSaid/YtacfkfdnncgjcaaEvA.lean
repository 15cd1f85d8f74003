/- An abstract interpreter of the translated code: definitions. Conditions: none (definitions and plain lemmas). -/
import Derived.WalkKit
import Derived.Below
import Derived.Orders
import Derived.KernelRfl
import Derived.IntWalk
import Derived.Deep.AppendSrc
import Derived.Great.BuildSlice
set_option linter.unusedVariables false
set_option linter.unusedSimpArgs false
namespace Go.Proofs.Ytacfkfdnncgjcaa.Ev
open Go

/-- Abstract values. 'list': a slice that is only read, by its cells; 'sl', 'ptr': into an object of the frame's own; 'uniq', 'uptr': a slice, a pointer owned whole, by content. -/
inductive V where
  | any
  | undef
  | bool (b : Bool)
  | int (k : IntKind) (n : Int)
  | str (s : ByteArray)
  | nilp
  | nilf
  | nili
  | nils
  | list (n : Nat) (cs : List V)
  | ref (cs : List V) (off : Nat)
  | sl (id ver off len : Nat)
  | ptr (id ver off : Nat)
  | func (f : Fn) (first caps : List V)
  | iface (t : TypeId) (v : V)
  | agg (cs : List V)
  | tup (vs : List V)
  | uniq (sz n : Nat) (cs : List V)
  | uptr (cs : List V)
  deriving Inhabited

structure Ob where
  ver : Nat
  lv : Nat
  sz : Nat
  cells : List V

structure St where
  fr : Nat → V
  H : Nat → Option Ob
  nx : Nat
  /-- The slots of the results, by bits. -/
  rs : Nat := 0

def upd {α : Type} (f : Nat → α) (k : Nat) (v : α) : Nat → α := fun i => if i = k then v else f i

theorem upd_same {α : Type} (f : Nat → α) (k : Nat) (v : α) : upd f k v k = v := by simp [upd]
theorem upd_ne {α : Type} (f : Nat → α) (k i : Nat) (v : α) (h : i ≠ k) : upd f k v i = f i := by simp [upd, h]

def updO (f : Nat → V) (k : Option Nat) (v : V) : Nat → V := match k with
  | some k => upd f k v
  | none => f

def V.cells : V → Option (List V)
  | .agg cs => some cs
  | .any | .undef | .tup _ | .uniq .. | .uptr _ => none
  | v => some [v]

def V.ofS : Value → Option V
  | .bool b => some (.bool b)
  | .int k n => some (.int k n)
  | .string s => some (.str s)
  | .pointer none => some .nilp
  | .slice _ 0 0 => some .nils
  | .nilFunc => some .nilf
  | .nilIface => some .nili
  | _ => none

def V.ofC : Value → Option V
  | .agg cs => (cs.toList.mapM V.ofS).map .agg
  | .tuple cs => if cs.size = 0 then some .undef else none
  | v => V.ofS v

def ev (fr : Nat → V) : Operand → Option V
  | .tmp t => some (fr t)
  | .const v => V.ofC v
  | .func f => some (.func (.func f) [] [])
  | .global _ => none

/-- What an operation comes to: the value of its slot; the objects that it has read, and those that it writes. -/
structure D where
  v : V
  rd : List Nat := []
  wr : List (Nat × Option Ob) := []
  /-- Does it hang on these objects alone? -/
  ok : Bool := true

def ret (v : V) : Option D := some { v := v }

/-! ### Types -/
def szT (P : Program) (t : TypeId) : Option Nat := (P.info? t).map (·.size)
def aggT (P : Program) (t : TypeId) : Option Bool := (P.underlying t).map fun
  | .struct _ | .array _ _ => true
  | _ => false
/-- A type's cells at a load: whether it is an aggregate, and how many. -/
def ldT (P : Program) (t : TypeId) : Option (Bool × Nat) := do pure (← aggT P t, ← szT P t)
/-- A slice type: its element type, the element's cells, its bytes. -/
def slT (P : Program) (t : TypeId) : Option (TypeId × Nat × Nat) :=
  match P.underlying t with
  | some (.slice e) => (P.info? e).map fun i => (e, i.size, i.bytes)
  | _ => none
/-- The same, for a slice that grows: its elements have cells and bytes, and a zero value. -/
def apT (P : Program) (t : TypeId) : Option (TypeId × Nat × Nat) :=
  match slT P t with
  | some (e, sz, bytes) => match (P.info? e).bind (·.zero) with
    | some z => if sz = 0 ∨ bytes = 0 ∨ z.cells.size ≠ sz then none else some (e, sz, bytes)
    | none => none
  | none => none
def zeroT (P : Program) (t : TypeId) : Option (List V) :=
  match (P.info? t).bind (·.zero) with
  | some z => z.cells.toList.mapM V.ofS
  | none => none
def fldT (P : Program) (t : TypeId) (f : Nat) : Option (Nat × Bool × Nat) :=
  match P.underlying t with
  | some (.struct fields) => match fields[f]? with
    | some x => do pure (x.offset, ← aggT P x.type, ← szT P x.type)
    | none => none
  | _ => none
def arrT (P : Program) (t : TypeId) : Option (Nat × Bool × Nat) :=
  match P.underlying t with
  | some (.array n e) => do pure (n, ← aggT P e, ← szT P e)
  | _ => none
/-- The places of a struct's fields, or of an array's elements. -/
def plT (P : Program) (t : TypeId) (i : Nat) : Option (Nat × Nat) :=
  match P.underlying t with
  | some (.struct fields) => match fields[i]? with
    | some x => (szT P x.type).map fun s => (x.offset, s)
    | none => none
  | some (.array _ e) => (szT P e).map fun s => (i * s, s)
  | _ => none

/-- Are all the fields' sizes known? -/
def plAll (P : Program) (t : TypeId) : Bool :=
  match P.underlying t with
  | some (.struct fields) => fields.toList.all fun f => (szT P f.type).isSome
  | some (.array _ e) => (szT P e).isSome
  | _ => true
/-- n times the cells of a zero value. -/
def zerosV (n : Nat) (z : List V) : List V := (List.range (n * z.length)).map fun i => z.getD (i % z.length) .undef
def isStrT : Option TypeDesc → Bool
  | some .string => true
  | _ => false
def isU8T : Option TypeDesc → Bool
  | some (.int .u8) => true
  | _ => false

/-! ### Operations on values -/
def intOp (op : BinOp) (k : IntKind) (a b : Int) : Option V :=
  match op with
  | .add => some (.int k (k.wrap (a + b)))
  | .sub => some (.int k (k.wrap (a - b)))
  | .mul => some (.int k (k.wrap (a * b)))
  | .quo => if b = 0 then none else some (.int k (k.wrap (a.tdiv b)))
  | .rem => if b = 0 then none else some (.int k (a.tmod b))
  | .and | .or | .xor | .andNot => some (.int k (Go.bits op k a b))
  | .shl | .shr => none
  | .eql => some (.bool (decide (a = b)))
  | .neq => some (.bool (decide (¬ a = b)))
  | .lss => some (.bool (decide (a < b)))
  | .leq => some (.bool (decide (a ≤ b)))
  | .gtr => some (.bool (decide (b < a)))
  | .geq => some (.bool (decide (b ≤ a)))

def shOp (op : BinOp) (k : IntKind) (a b : Int) : Option V :=
  if b < 0 then none else
  match op with
  | .shl => some (.int k (k.wrap (a * 2 ^ (min b.toNat k.bits))))
  | .shr => some (.int k (a.fdiv (2 ^ (min b.toNat k.bits))))
  | _ => none

def strOp (op : BinOp) (s t : ByteArray) : Option V :=
  match op with
  | .add => if s.size + t.size ≤ 9223372036854775807 then some (.str (s ++ t)) else none
  | .eql => some (.bool (s.toList == t.toList))
  | .neq => some (.bool (!(s.toList == t.toList)))
  | .lss => some (.bool (Op.bytesLess s.toList t.toList))
  | .geq => some (.bool (!(Op.bytesLess s.toList t.toList)))
  | _ => none

/-- Equality at other types; 'c': one of the two operands is a constant. -/
def eqV (d : Option TypeDesc) (c : Bool) (x y : V) : Option Bool :=
  match d, x, y with
  | some .bool, .bool a, .bool b => some (a == b)
  | some (.interface _), .nili, .nili => if c then some true else none
  | some (.interface _), .nili, .iface _ _ => some false
  | some (.interface _), .iface _ _, .nili => some false
  | _, _, _ => none

def isC : Operand → Bool
  | .const _ => true
  | _ => false

/-- Is a slice, not empty, the literal nil? -/
def sliceNil (d : Option TypeDesc) (y : Operand) (a : V) : Option Bool :=
  match d, y, a with
  | some (.slice _), .const (.slice none 0 0), .list _ (_ :: _) => some false
  | some (.slice _), .const (.slice none 0 0), .sl _ _ _ (_ + 1) => some false
  | _, _, _ => none

def binV (P : Program) (op : BinOp) (t : TypeId) (x y : Operand) (a b : V) : Option V :=
  match a, b with
  | .int k a, .int k' b =>
    match op with
    | .shl | .shr => shOp op k a b
    | _ => if k = k' then intOp op k a b else none
  | .str s, .str t => strOp op s t
  | a, b =>
    match op with
    | .eql => match sliceNil (P.underlying t) y a with
      | some r => some (.bool r)
      | none => (eqV (P.underlying t) (isC x || isC y) a b).map .bool
    | .neq => match sliceNil (P.underlying t) y a with
      | some r => some (.bool (!r))
      | none => (eqV (P.underlying t) (isC x || isC y) a b).map fun c => .bool (!c)
    | _ => none

def unV (op : UnOp) (x : V) : Option V :=
  match op, x with
  | .not, .bool b => some (.bool (!b))
  | .neg, .int k n => some (.int k (k.wrap (0 - n)))
  | _, _ => none

def bytesV (s : ByteArray) : List V := s.data.toList.map fun b => .int .u8 b.toNat

def byteOf : V → Option UInt8
  | .int .u8 n => some (UInt8.ofNat n.toNat)
  | _ => none

/-- Replaces parts of cells. -/
def fillV (place : Nat → Option (Nat × Nat)) (cells : List V) : List (Nat × V) → Option (List V)
  | [] => some cells
  | (i, v) :: rest =>
    match place i, v.cells with
    | some (off, size), some vs =>
      if vs.length = size ∧ off + size ≤ cells.length then fillV place (cells.take off ++ vs ++ cells.drop (off + size)) rest else none
    | _, _ => none

def getO (H : Nat → Option Ob) (id ver : Nat) : Option Ob :=
  match H id with
  | some ob => if ob.ver = ver then some ob else none
  | none => none

/-- A cell as it is read: what it owns is seen as a slice that is only read. -/
def viewN : Nat → V → Option V
  | 0, .uniq .. => none
  | k + 1, .uniq _ n cs => (cs.mapM (viewN k)).map (.list n)
  | _, .uptr _ | _, .agg _ | _, .tup _ => none
  | _, v => some v

/-- A value without the frame's own objects: for a callee that only reads. -/
def purN (H : Nat → Option Ob) : Nat → V → Option V
  | _, .any => none
  | _, .uptr _ => none
  | _, .nils => some (.list 0 [])
  | 0, .uniq .. | 0, .sl .. | 0, .ptr .. | 0, .func .. | 0, .agg _ | 0, .tup _ | 0, .iface .. => none
  | k + 1, .uniq _ n cs => (cs.mapM (purN H k)).map (.list n)
  | k + 1, .sl id ver off len => match getO H id ver with
    | some ob => if off + len * ob.sz ≤ ob.cells.length then (((ob.cells.drop off).take (len * ob.sz)).mapM (purN H k)).map (.list len) else none
    | none => none
  | k + 1, .ptr id ver off => match getO H id ver with
    | some ob => (ob.cells.mapM (purN H k)).map (.ref · off)
    | none => none
  | k + 1, .func f fi ca => match fi.mapM (purN H k), ca.mapM (purN H k) with
    | some fi', some ca' => some (.func f fi' ca')
    | _, _ => none
  | k + 1, .agg cs => (cs.mapM (purN H k)).map .agg
  | k + 1, .tup cs => (cs.mapM (purN H k)).map .tup
  | k + 1, .iface t v => (purN H k v).map (.iface t)
  | _, v => some v

/-- The objects that 'purN' reads. -/
def idsN (H : Nat → Option Ob) : Nat → V → List Nat
  | k + 1, .sl id ver off len => match getO H id ver with
    | some ob => id :: ((ob.cells.drop off).take (len * ob.sz)).flatMap (idsN H k)
    | none => []
  | k + 1, .ptr id ver off => match getO H id ver with
    | some ob => id :: ob.cells.flatMap (idsN H k)
    | none => []
  | k + 1, .uniq _ n cs => cs.flatMap (idsN H k)
  | k + 1, .func f fi ca => fi.flatMap (idsN H k) ++ ca.flatMap (idsN H k)
  | k + 1, .agg cs => cs.flatMap (idsN H k)
  | k + 1, .tup cs => cs.flatMap (idsN H k)
  | k + 1, .iface t v => idsN H k v
  | _, _ => []

/-- A value that owns all that it leads to. -/
def treeN : Nat → V → Bool
  | _, .bool _ | _, .int .. | _, .str _ | _, .nilp | _, .nilf | _, .nili | _, .nils | _, .undef => true
  | k + 1, .uniq _ _ cs => cs.all (treeN k)
  | k + 1, .uptr cs => cs.all (treeN k)
  | k + 1, .agg cs => cs.all (treeN k)
  | k + 1, .tup cs => cs.all (treeN k)
  | _, _ => false

/-- A value that says nothing of what is handed back. -/
def anyU : V → V
  | .undef => .any
  | v => v

def isLR : V → Bool
  | .list .. | .ref .. => true
  | _ => false

/-- A value of the frame's own objects as a tree; its leaves may be slices that are only read. -/
def expN (H : Nat → Option Ob) : Nat → V → Option V
  | k + 1, .sl id ver off len => match getO H id ver with
    | some ob => if ob.lv = 2 ∧ off = 0 ∧ len * ob.sz ≤ ob.cells.length then ((ob.cells.take (len * ob.sz)).mapM (expN H k)).map (.uniq ob.sz len) else none
    | none => none
  | k + 1, .agg cs => (cs.mapM (expN H k)).map .agg
  | k + 1, .tup cs => (cs.mapM (expN H k)).map .tup
  | k, v => if treeN k v || isLR v then some v else none

/-- The objects that 'expN' gives away. -/
def eidN (H : Nat → Option Ob) : Nat → V → List Nat
  | k + 1, .sl id ver off len => match getO H id ver with
    | some ob => id :: (ob.cells.take (len * ob.sz)).flatMap (eidN H k)
    | none => []
  | k + 1, .agg cs => cs.flatMap (eidN H k)
  | k + 1, .tup cs => cs.flatMap (eidN H k)
  | _, _ => []

/-- What a call comes to: whether all that its result leads to is new; the result; the contents of the arguments that were handed over. -/
structure Res where
  fresh : Bool
  v : V
  outs : List V := []

def depth : Nat := 6

def hasU : V → Bool
  | .uniq .. | .uptr _ => true
  | _ => false

/-- No cell of these objects owns a row: nothing that they own has been seen. -/
def flatO (H : Nat → Option Ob) (ids : List Nat) : Bool := ids.all fun i => match H i with
  | some ob => ob.cells.all fun c => !hasU c
  | none => true

/-- A pointer to an object of the frame's own that holds leaves alone: the object as a tree. -/
def ptrU (H : Nat → Option Ob) : V → Option V
  | .ptr id ver off => match getO H id ver with
    | some ob => if off = 0 ∧ 1 ≤ ob.lv then (ob.cells.mapM (expN H 0)).map .uptr else none
    | none => none
  | _ => none

/-! ### Handing values over -/
/-- A value handed over whole (mode 1), as a tree. -/
def ownX (H : Nat → Option Ob) : V → Option V
  | .sl id ver off len => match getO H id ver with
    | some ob => if len * ob.sz = ob.cells.length then expN H depth (.sl id ver off len) else none
    | none => none
  | .ptr id ver off => ptrU H (.ptr id ver off)
  | _ => none
def ownI (H : Nat → Option Ob) : V → List Nat
  | .sl id ver off len => eidN H depth (.sl id ver off len)
  | .ptr id _ _ => [id]
  | _ => []

/-- An argument on its way: what is handed over, the objects that are read, those that are handed over, those that come back. -/
structure AP where
  v : V
  rd : List Nat := []
  own : List Nat := []
  back : Bool := false

def isRefV : V → Bool
  | .sl .. | .ptr .. => true
  | _ => false

def prepA (H : Nat → Option Ob) (m : Nat) (a : V) : Option AP :=
  let share : Option AP := (purN H depth a).map fun v => { v, rd := idsN H depth a }
  match m with
  | 1 => match a with
    | .agg cs => match cs.mapM fun c => if isRefV c then ownX H c else expN H depth c with
      | some cs' => some { v := .agg cs', own := cs.flatMap fun c => if isRefV c then ownI H c else eidN H depth c, back := true }
      | none => none
    | a => if isRefV a then (ownX H a).map fun v => { v, own := ownI H a, back := true } else share
  | 2 => match a with
    | .sl id ver off len => match expN H depth (.sl id ver off len) with
      | some v => some { v, own := eidN H depth (.sl id ver off len) }
      | none => share
    | .agg cs => match expN H depth (.agg cs) with
      | some v => some { v, own := eidN H depth (.agg cs) }
      | none => share
    | _ => share
  | _ => share

def prepL (H : Nat → Option Ob) : List Nat → List V → Option (List AP)
  | _, [] => some []
  | ms, a :: as => match prepA H (ms.headD 0) a, prepL H ms.tail as with
    | some p, some ps => some (p :: ps)
    | _, _ => none

def backO (H : Nat → Option Ob) : V → V → Option (List (Nat × Option Ob))
  | .sl id _ _ _, .uniq sz _ cs => match H id with
    | some ob => if sz = ob.sz ∧ cs.length = ob.cells.length then some [(id, some { ob with cells := cs })] else none
    | none => none
  | .sl .., _ => none
  | .ptr id _ _, .uptr cs => match H id with
    | some ob => if cs.length = ob.cells.length then some [(id, some { ob with cells := cs })] else none
    | none => none
  | .ptr .., _ => none
  | _, _ => some []
def backL (H : Nat → Option Ob) : List V → List V → Option (List (Nat × Option Ob))
  | [], [] => some []
  | a :: as, o :: os => match backO H a o, backL H as os with
    | some x, some y => some (x ++ y)
    | _, _ => none
  | _, _ => none
/-- What is written behind a call: what has been handed over is gone, what comes back has its contents. -/
def backW (H : Nat → Option Ob) : List V → List AP → List V → Option (List (Nat × Option Ob))
  | [], [], _ => some []
  | a :: as, p :: ps, os =>
    let here : Option (List (Nat × Option Ob)) := if p.back then
      (match a, os.headD .undef with
        | .agg cs, .agg os => backL H cs os
        | a, o => backO H a o) else some []
    match here, backW H as ps os.tail with
    | some x, some y => some ((p.own.map fun i => (i, none)) ++ x ++ y)
    | _, _ => none
  | _, _, _ => none

/-! ### Taking a result in -/
def adoptC (b : Nat) : V → V × List (Nat × Option Ob)
  | .uniq sz n cs => (.sl b 0 0 n, [(b, some ⟨0, 2, sz, cs⟩)])
  | .uptr cs => (.ptr b 0 0, [(b, some ⟨0, 1, 1, cs⟩)])
  | v => (v, [])
def adoptL (b : Nat) : List V → List V × List (Nat × Option Ob)
  | [] => ([], [])
  | v :: vs => let (x, y) := adoptC b v; let (xs, ys) := adoptL (b + 1) vs; (x :: xs, y ++ ys)
def adoptA (b : Nat) : V → V × List (Nat × Option Ob)
  | .agg cs => let (xs, ys) := adoptL b cs; (.agg xs, ys)
  | v => adoptC b v
def adoptT (b : Nat) : List V → List V × List (Nat × Option Ob)
  | [] => ([], [])
  | v :: vs => let (x, y) := adoptA b v; let (xs, ys) := adoptT (b + 8) vs; (x :: xs, y ++ ys)
def adopt (b : Nat) : V → V × List (Nat × Option Ob)
  | .tup vs => let (xs, ys) := adoptT b vs; (.tup xs, ys)
  | v => adoptA b v

/-- No more parts than there are numbers for new objects. -/
def wideA : V → Bool
  | .agg cs => decide (cs.length ≤ 8)
  | _ => true
def widthOk : V → Bool
  | .tup vs => decide (vs.length ≤ 8) && vs.all wideA
  | v => wideA v

def nodupB : List Nat → Bool
  | [] => true
  | x :: xs => !xs.contains x && nodupB xs

def freezeW (H : Nat → Option Ob) (ids : List Nat) : List (Nat × Option Ob) :=
  ids.filterMap fun i => (H i).map fun ob => (i, some { ob with lv := 0 })

def noTup : V → Bool
  | .tup _ => false
  | _ => true

/-- A call. -/
def callD (H : Nat → Option Ob) (b : Nat) (strict : Bool) (modes : List Nat) (call : List V → Option Res) (args : List V) : Option D :=
  match prepL H modes args with
  | none => none
  | some ps =>
    if nodupB (ps.flatMap (·.own)) && (ps.flatMap (·.own)).all (fun i => !(ps.flatMap (·.rd)).contains i) && (strict || flatO H (ps.flatMap (·.own))) && (ps.map (·.v)).all noTup then
      match call (ps.map (·.v)) with
      | none => none
      | some r =>
        match backW H args ps r.outs with
        | none => none
        | some bw =>
          if r.fresh then
            if widthOk r.v then some { v := (adopt b r.v).1, rd := ps.flatMap (·.own) ++ ps.flatMap (·.rd), wr := (bw ++ (if r.outs.all (treeN depth) then [] else freezeW H (ps.flatMap (·.rd)))) ++ (adopt b r.v).2 } else none
          else some { v := r.v, rd := ps.flatMap (·.own) ++ ps.flatMap (·.rd), wr := bw ++ freezeW H (ps.flatMap (·.rd)) }
    else none

/-! ### One operation -/
def setCs (cs : List V) (off : Nat) (vs : List V) : List V := cs.take off ++ vs ++ cs.drop (off + vs.length)
def loadD (P : Program) (strict : Bool) (H : Nat → Option Ob) (b : Nat) (t : TypeId) (a : V) : Option D :=
  match ldT P t with
  | none => none
  | some (ag, n) =>
    match a with
    | .ptr id ver off => match getO H id ver with
      | some ob =>
        if ag then
          if off + n ≤ ob.cells.length then
            if strict && ((ob.cells.drop off).take n).any hasU then
              if n ≤ 64 ∧ ob.lv ≠ 0 then some { v := .agg (adoptL b ((ob.cells.drop off).take n)).1, rd := [id], wr := (adoptL b ((ob.cells.drop off).take n)).2 ++ [(id, some { ob with cells := setCs ob.cells off (adoptL b ((ob.cells.drop off).take n)).1 })] } else none
            else (((ob.cells.drop off).take n).mapM (viewN depth)).map fun cs => { v := .agg cs, rd := [id] }
          else none
        else (ob.cells[off]?).bind fun c =>
          if strict && hasU c then
            if ob.lv ≠ 0 then some { v := (adoptL b [c]).1.headD .undef, rd := [id], wr := (adoptL b [c]).2 ++ [(id, some { ob with cells := setCs ob.cells off (adoptL b [c]).1 })] } else none
          else (viewN depth c).map fun v => { v, rd := [id] }
      | none => none
    | .ref cs off =>
      if ag then (if off + n ≤ cs.length then ret (.agg ((cs.drop off).take n)) else none)
      else (cs[off]?).bind ret
    | _ => none

/-- A cell as it is laid into a row: what it names is given to the row. -/
def mvC (H : Nat → Option Ob) (v : V) : V × List Nat :=
  match v with
  | .sl id ver off len => match expN H depth (.sl id ver off len) with
    | some u => (u, eidN H depth (.sl id ver off len))
    | none => (v, [])
  | _ => (v, [])

def mvOk (H : Nat → Option Ob) (v : V) : Bool :=
  match v with
  | .sl id ver off len => (expN H depth (.sl id ver off len)).isSome
  | _ => true
def storeD (P : Program) (strict : Bool) (H : Nat → Option Ob) (t : TypeId) (a x : V) : Option D :=
  match szT P t, x.cells, a with
  | some n, some vs, .ptr id ver off => match getO H id ver with
    | some ob =>
      if vs.length = n ∧ off + n ≤ ob.cells.length ∧ 1 ≤ ob.lv then
        if ob.lv = 2 ∧ strict = false then
          let ms := vs.map (mvC H)
          let gone := ms.flatMap (·.2)
          if nodupB gone && !gone.contains id then
            some { v := .undef, rd := id :: gone, wr := (gone.map fun i => (i, none)) ++ [(id, some { ob with cells := setCs ob.cells off (ms.map (·.1)) })], ok := vs.all (mvOk H) }
          else none
        else some { v := .undef, rd := [id], wr := [(id, some { ob with cells := setCs ob.cells off vs })] }
      else none
    | none => none
  | _, _, _ => none

def lvO (H : Nat → Option Ob) (i : Nat) : Nat := match H i with
  | some ob => ob.lv
  | none => 0

/-- The cells of a slice that is read whole. -/
def segV (H : Nat → Option Ob) (sz : Nat) : V → Option (List V × List Nat)
  | .nils => some ([], [])
  | .list n cs => if n * sz ≤ cs.length then some (cs.take (n * sz), []) else none
  | .sl id ver off len => match getO H id ver with
    | some ob => if off + len * sz ≤ ob.cells.length then some ((ob.cells.drop off).take (len * sz), [id]) else none
    | none => none
  | _ => none

def lenV : V → Option Nat
  | .nils => some 0
  | .list n _ => some n
  | .sl _ _ _ n => some n
  | .str s => some s.size
  | _ => none

/-- The objects whose cells are given away: those that own rows. -/
def goneOf (cs : List V) (ids : List Nat) : List Nat := if cs.any hasU then ids else []

def appendD (P : Program) (H : Nat → Option Ob) (b : Nat) (t t2 : TypeId) (s x : V) : Option D :=
  match apT P t with
  | none => none
  | some (e, sz, bytes) =>
    let news : Option (List V × Nat × List Nat) := match x with
      | .str y => if sz = 1 ∧ isStrT (P.underlying t2) = true then some (bytesV y, y.size, []) else none
      | x => match segV H sz x, lenV x with
        | some (cs, ids), some n => if t2 = t then some (cs, n, ids) else none
        | _, _ => none
    match news with
    | none => none
    | some (cs, n, ids) =>
      if (goneOf cs ids).all (fun i => decide (1 ≤ lvO H i)) = false then none else
      match s with
      | .nils => if n * bytes ≤ 140737488355328 then
          some { v := .sl b 0 0 n, rd := ids, wr := ((goneOf cs ids).map fun i => (i, none)) ++ [(b, some ⟨0, 2, sz, cs⟩)] } else none
      | .sl id ver off len => match getO H id ver with
        | some ob =>
          if off = 0 ∧ ob.lv = 2 ∧ ob.sz = sz ∧ ob.cells.length = len * sz ∧ (len + n) * bytes ≤ 140737488355328 ∧ ids.contains id = false then
            some { v := .sl id (ver + 1) 0 (len + n), rd := id :: ids, wr := ((goneOf cs ids).map fun i => (i, none)) ++ [(id, some { ob with ver := ver + 1, cells := ob.cells ++ cs })] }
          else none
        | none => none
      | _ => none

def copyD (P : Program) (H : Nat → Option Ob) (t : TypeId) (d s : V) : Option D :=
  match slT P t with
  | none => none
  | some (e, sz, bytes) =>
    match d with
    | .sl id ver off len => match getO H id ver with
      | some ob => match segV H sz s, lenV s with
        | some (cs, ids), some n =>
          let m := min n len
          if 1 ≤ ob.lv ∧ ob.sz = sz ∧ off + len * sz ≤ ob.cells.length ∧ (cs.take (m * sz)).any hasU = false then
            some { v := .int .i64 (m : Int), rd := id :: ids, wr := [(id, some { ob with cells := setCs ob.cells off (cs.take (m * sz)) })] }
          else none
        | _, _ => none
      | none => none
    | _ => none

def mmV (f : Int → Int → Int) : List V → Option V
  | .int k a :: rest => rest.foldlM (fun x y => match x, y with
    | .int k a, .int k' b => if k = k' then some (.int k (f a b)) else none
    | _, _ => none) (.int k a)
  | _ => none
def mxI (a b : Int) : Int := if b > a then b else a
def mnI (a b : Int) : Int := if b < a then b else a

def bltD (P : Program) (H : Nat → Option Ob) (b : Nat) (f : Builtin) (ts : Array TypeId) (args : List V) : Option D :=
  match f, args with
  | .len, [x] => match lenV x, (ts[0]?).bind P.underlying with
    | some n, some (.slice _) => match x with
      | .str _ => none
      | _ => ret (.int .i64 (n : Int))
    | some n, some .string => match x with
      | .str _ => ret (.int .i64 (n : Int))
      | _ => none
    | _, _ => none
  | .append, [s, x] => if ts.size = 2 then appendD P H b (ts.getD 0 0) (ts.getD 1 0) s x else none
  | .copy, [d, s] => if ts.size = 2 then copyD P H (ts.getD 0 0) d s else none
  | .max, xs => (mmV mxI xs).bind ret
  | .min, xs => (mmV mnI xs).bind ret
  | _, _ => none

def convD (P : Program) (H : Nat → Option Ob) (b : Nat) (src dst : TypeId) (x : V) : Option D :=
  match P.underlying src, P.underlying dst, x with
  | some _, some (.int k), .int _ n => ret (.int k (k.wrap n))
  | some _, some .string, .str s => ret (.str s)
  | some _, some (.slice e), .str s =>
    if isU8T (P.underlying e) = true ∧ s.size ≤ 140737488355328 then some { v := .sl b 0 0 s.size, wr := [(b, some ⟨0, 2, 1, bytesV s⟩)] } else none
  | some (.slice e), some .string, x =>
    if isU8T (P.underlying e) = true then
      match segV H 1 x with
      | some (cs, ids) => (cs.mapM byteOf).map fun bs => { v := .str ⟨bs.toArray⟩, rd := ids }
      | none => none
    else none
  | _, _, _ => none

def bound (x : Option V) (d : Nat) : Option Nat :=
  match x with
  | none => some d
  | some (.int _ n) => if 0 ≤ n then some n.toNat else none
  | _ => none

def sliceD (P : Program) (H : Nat → Option Ob) (t : TypeId) (x : V) (lo hi mx : Option V) : Option D :=
  match P.underlying t, x, lenV x with
  | some .string, .str s, some n => match bound lo 0, bound hi n, mx with
    | some l, some h, none => if l ≤ h ∧ h ≤ n then ret (.str (s.extract l h)) else none
    | _, _, _ => none
  | some (.slice e), x, some n => match szT P e, bound lo 0, bound hi n, bound mx n with
    | some sz, some l, some h, some m =>
      if l ≤ h ∧ h ≤ m ∧ m ≤ n ∧ (mx.isSome = true → hi.isSome = true) ∧ 0 < sz then
        if mx.isSome && m == l then (match x with | .str _ => none | _ => ret .nils) else
        match x with
        | .sl id ver off _ => match H id with
          | some ob => if ob.sz = sz then some { v := .sl id ver (off + l * sz) (h - l), rd := [id] } else none
          | none => none
        | .list _ cs => ret (.list (h - l) ((cs.drop (l * sz)).take ((h - l) * sz)))
        | .nils => ret .nils
        | _ => none
      else none
    | _, _, _, _ => none
  | _, _, _ => none

def optE (fr : Nat → V) : Option Operand → Option (Option V)
  | none => some none
  | some x => (ev fr x).map some

def evL (fr : Nat → V) (xs : List Operand) : Option (List V) := xs.mapM (ev fr)

/-- A call's callee: the function, the values ahead of the arguments and behind them. -/
def calleeV (v : V) : Option (FuncId × List V × List V) :=
  match v with
  | .func (.func f) fi ca => some (f, fi, ca)
  | _ => none

def callOp (P : Program) (modes : FuncId → List Nat) (strict : Bool) (call : FuncId → List V → Option Res) (fr : Nat → V) (H : Nat → Option Ob) (b : Nat) (c : Call) : Option D :=
  match c.callee with
  | .builtin f => (evL fr c.args.toList).bind (bltD P H b f c.argTypes)
  | .value g => (evL fr c.args.toList).bind fun args => ((ev fr g).bind calleeV).bind fun x => callD H b strict (modes x.1) (call x.1) (x.2.1 ++ args ++ x.2.2)
  | .invoke .. => none

def opD (P : Program) (modes : FuncId → List Nat) (strict : Bool) (call : FuncId → List V → Option Res) (fr : Nat → V) (H : Nat → Option Ob) (b : Nat) (op : Op) : Option D :=
  match op with
  | .move x | .assign x => (ev fr x).bind ret
  | .pick c x y => match ev fr c with
    | some (.bool t) => (ev fr (if t then x else y)).bind ret
    | _ => none
  | .alloc t => (zeroT P t).map fun cs => { v := .ptr b 0 0, wr := [(b, some ⟨0, 1, 1, cs⟩)] }
  | .box t x => match (ev fr x).bind V.cells with
    | some cs => some { v := .ptr b 0 0, wr := [(b, some ⟨0, 1, 1, cs⟩)] }
    | none => none
  | .build t ps => match zeroT P t, aggT P t, ps.toList.mapM (fun p => (ev fr p.2).map fun v => (p.1, v)) with
    | some z, some true, some vs => if plAll P t then (fillV (plT P t) z vs).bind fun cs => ret (.agg cs) else none
    | _, _, _ => none
  | .buildSlice t n ps => match slT P t, ps.toList.mapM (fun p => (ev fr p.2).map fun v => (p.1, v)) with
    | some (e, sz, bytes), some vs => match zeroT P e with
      | some z =>
        if z.length = sz ∧ 0 < sz ∧ n * sz ≤ 1000 then
          match fillV (fun i => some (i * sz, sz)) (zerosV n z) vs with
          | some cs =>
            if n = 0 then ret .nils else
            if strict then some { v := .sl b 0 0 n, wr := [(b, some ⟨0, 2, sz, cs⟩)] } else
            let ms := cs.map (mvC H)
            let gone := ms.flatMap (·.2)
            if nodupB gone then some { v := .sl b 0 0 n, rd := gone, wr := (gone.map fun i => (i, none)) ++ [(b, some ⟨0, 2, sz, ms.map (·.1)⟩)], ok := cs.all (mvOk H) } else none
          | none => none
        else none
      | none => none
    | _, _ => none
  | .load t a => (ev fr a).bind (loadD P strict H b t)
  | .store t a x => match ev fr a, ev fr x with
    | some a, some x => storeD P strict H t a x
    | _, _ => none
  | .nilCheck x => match ev fr x with
    | some (.ptr id ver off) => ret (.ptr id ver off)
    | some (.ref cs off) => ret (.ref cs off)
    | some (.func (.func f) fi ca) => ret (.func (.func f) fi ca)
    | _ => none
  | .binOp op t x y _ => match ev fr x, ev fr y with
    | some a, some c => (binV P op t x y a c).bind ret
    | _, _ => none
  | .unOp op _ x => (ev fr x).bind fun a => (unV op a).bind ret
  | .convert src dst x => (ev fr x).bind (convD P H b src dst)
  | .makeInterface t x => match P.underlying t, ev fr x with
    | some (.interface _), _ => none
    | some _, some v => ret (.iface t v)
    | _, _ => none
  | .makeFunc f fi ca => match evL fr fi.toList, evL fr ca.toList with
    | some x, some y => ret (.func f x y)
    | _, _ => none
  | .makeSlice t l c => match slT P t, ev fr l, ev fr c with
    | some (e, sz, bytes), some (.int _ l), some (.int _ c) => match zeroT P e with
      | some z => if z.length = sz ∧ 0 < sz ∧ 0 ≤ l ∧ l ≤ c ∧ c.toNat * bytes ≤ 140737488355328 ∧ c ≤ 9223372036854775807 then
          some { v := .sl b 0 0 l.toNat, wr := [(b, some ⟨0, 2, sz, zerosV l.toNat z⟩)] } else none
      | none => none
    | _, _, _ => none
  | .slice t x lo hi mx => match ev fr x, optE fr lo, optE fr hi, optE fr mx with
    | some x, some lo, some hi, some mx => sliceD P H t x lo hi mx
    | _, _, _, _ => none
  | .fieldAddr t x f => match fldT P t f, ev fr x with
    | some (o, _, n), some (.ptr id ver off) => if n = 0 then none else ret (.ptr id ver (off + o))
    | some (o, _, n), some (.ref cs off) => if n = 0 then none else ret (.ref cs (off + o))
    | _, _ => none
  | .field t x f => match fldT P t f, ev fr x with
    | some (o, ag, n), some (.agg cs) =>
      if ag then (if o + n ≤ cs.length then ret (.agg ((cs.drop o).take n)) else none) else (cs[o]?).bind ret
    | _, _ => none
  | .indexAddr t x i => match slT P t, arrT P t, ev fr x, ev fr i with
    | some (_, sz, _), _, some (.sl id ver off len), some (.int _ i) => if 0 ≤ i ∧ i < len then ret (.ptr id ver (off + i.toNat * sz)) else none
    | some (_, sz, _), _, some (.list n cs), some (.int _ i) => if 0 ≤ i ∧ i < n ∧ i.toNat * sz < cs.length then ret (.ref cs (i.toNat * sz)) else none
    | none, some (n, _, sz), some (.ptr id ver off), some (.int _ i) => if 0 ≤ i ∧ i < n then ret (.ptr id ver (off + i.toNat * sz)) else none
    | none, some (n, _, sz), some (.ref cs off), some (.int _ i) => if 0 ≤ i ∧ i < n then ret (.ref cs (off + i.toNat * sz)) else none
    | _, _, _, _ => none
  | .index t x i => match P.underlying t, ev fr x, ev fr i with
    | some .string, some (.str s), some (.int _ i) => if 0 ≤ i then (s.data.toList[i.toNat]?).bind fun c => ret (.int .u8 c.toNat) else none
    | _, _, _ => none
  | .extract x i => match ev fr x with
    | some (.tup vs) => (vs[i]?).bind ret
    | _ => none
  | .call c => callOp P modes strict call fr H b c
  | _ => none

/-! ### Regions -/
def appW (H : Nat → Option Ob) : List (Nat × Option Ob) → (Nat → Option Ob)
  | [] => H
  | (i, o) :: rest => appW (upd H i o) rest

def St.app (st : St) (dst : Option Nat) (d : D) : St := { st with fr := updO st.fr dst d.v, H := appW st.H d.wr }

/-- Is the operation to be done? -/
def wantV (ops : List Oper) (fr : Nat → V) (o : Oper) : Option Bool :=
  match o.guard with
  | none => some true
  | some (j, want) => match (ops[j]?).bind (·.dst) with
    | some s => match fr s with
      | .bool c => some (c == want)
      | .any => none
      | _ => some false
    | none => some false

structure Env where
  P : Program
  modes : FuncId → List Nat
  strict : FuncId → Bool
  prim : FuncId → List V → Option Res
  /-- Are the objects numbered anew at each loop's head? -/
  reb : Bool := false

def stepD (E : Env) (strict : Bool) (call : FuncId → List V → Option Res) (ops : List Oper) (i : Nat) (o : Oper) (st : St) : Option D :=
  match wantV ops st.fr o with
  | some true => opD E.P E.modes strict call st.fr st.H (st.nx + 64 * i) o.op
  | some false => ret .undef
  | none => none

/-- The operations one after the other; with what each has come to. -/
def runO (E : Env) (strict : Bool) (call : FuncId → List V → Option Res) (ops : List Oper) : List Oper → Nat → St → List D → Option (St × List D)
  | [], i, st, acc => some ({ st with nx := st.nx + 64 * i }, acc)
  | o :: rest, i, st, acc => match stepD E strict call ops i o st with
    | some d => runO E strict call ops rest (i + 1) (st.app o.dst d) (acc ++ [d])
    | none => none

/-- Ancestors: for each operation those that stand before it in every order. -/
def ancs (ops : List Oper) : List Nat :=
  ops.foldl (fun acc o => acc ++ [o.after.toList.foldl (fun m e => if Region.binds .any e then (m ||| 2 ^ e.on) ||| acc.getD e.on 0 else m) 0]) []

def looks (ops : List Oper) (o : Oper) : List Nat :=
  (o.op.operands.toList.filterMap fun | .tmp t => some t | _ => none) ++
  (match o.guard with
   | some (g, _) => ((ops[g]?).bind (·.dst)).toList
   | none => [])

def apartS (ops : List Oper) (x y : Oper) : Bool :=
  (match x.dst with | some d => !(looks ops y).contains d && y.dst != some d | none => true) &&
  (match y.dst with | some d => !(looks ops x).contains d | none => true)

def disjN (a b : List Nat) : Bool := a.all fun i => !b.contains i

/-- The operation looks at no memory. -/
def noH : Op → Bool
  | .move _ | .assign _ | .pick .. | .binOp .. | .unOp .. | .makeInterface .. | .makeFunc .. | .fieldAddr .. | .field .. | .indexAddr .. | .index .. | .extract .. | .nilCheck _ => true
  | _ => false

/-- The static part of what makes an order idle: edges lead backward; what no order parts has slots of its own. The pairs that are left to be told apart by their objects. -/
def statOk (ops : List Oper) : Bool :=
  (ops.zipIdx.all fun (o, i) => o.after.toList.all fun e => !Region.binds .any e || decide (e.on < i)) &&
  (ops.zipIdx.all fun (o, i) => (ops.take i).zipIdx.all fun (p, k) => ((ancs ops).getD i 0).testBit k || apartS ops p o)

def noHAt (ops : List Oper) (i : Nat) : Bool := match ops[i]? with
  | some o => noH o.op
  | none => false

/-- The outcome of such an operation hangs on the objects alone that it tells as read. -/
def locOp (modes : FuncId → List Nat) : Op → Bool
  | .load .. | .alloc _ | .box .. | .build .. | .makeSlice .. | .slice .. | .convert .. | .buildSlice .. | .store .. => true
  | .call c => match c.callee with
    | .value (.func f) => (modes f).all fun m => m != 2
    | .builtin .len | .builtin .max | .builtin .min | .builtin .append => true
    | _ => false
  | op => noH op

def locAt (modes : FuncId → List Nat) (ops : List Oper) (i : Nat) : Bool := match ops[i]? with
  | some o => locOp modes o.op
  | none => false
def wids (d : D) : List Nat := d.wr.map (·.1)

def pairsOk (modes : FuncId → List Nat) (ops : List Oper) (ds : List D) : Bool :=
  ds.zipIdx.all fun (d, i) => (ds.take i).zipIdx.all fun (c, k) => ((ancs ops).getD i 0).testBit k || (d.wr.isEmpty && c.wr.isEmpty) || noHAt ops i || noHAt ops k ||
    (locAt modes ops i && (locAt modes ops k && (d.ok && (c.ok && (disjN (wids d) (c.rd ++ wids c) && disjN (wids c) d.rd)))))

/-! ### What is read later, by bits -/
def mskL (l : List Nat) : Nat := l.foldl (fun m t => m ||| 2 ^ t) 0
def clrB (m t : Nat) : Nat := if m.testBit t then m - 2 ^ t else m
def mskO : Operand → Nat
  | .tmp t => 2 ^ t
  | _ => 0
def livR (ops : List Oper) (out : Nat) : Nat :=
  ops.foldr (fun o m => (match o.dst with
    | some d => clrB m d
    | none => m) ||| mskL (looks ops o)) out
def livC (rs : Nat) : Code → (Nat → Nat) → Nat → Nat
  | .region _ ops _, _, out => livR ops.toList out
  | .seq a b, ends, out => livC rs a ends (livC rs b ends out)
  | .cond c a b, ends, out => livC rs a ends out ||| livC rs b ends out ||| mskO c
  | .block id c, ends, out => livC rs c (upd ends id out) out
  | .loop c, ends, _ =>
    let f := livC rs c ends
    let l1 := f 0
    let l2 := f l1 ||| l1
    f l2 ||| l2
  | .scope c, ends, out => livC rs c ends out
  | .exit id, ends, _ => ends id
  | .ret, _, _ => rs
  | _, _, out => out
def livK (rs : Nat) : List Item → Nat × (Nat → Nat)
  | [] => (rs, fun _ => 0)
  | .inBlock id :: k => ((livK rs k).1, upd (livK rs k).2 id (livK rs k).1)
  | .code c :: k => (livC rs c (livK rs k).2 (livK rs k).1, (livK rs k).2)
  | .inLoop b :: k => (livC rs (.loop b) (livK rs k).2 (livK rs k).1, (livK rs k).2)
  | _ :: k => livK rs k
def maskL (m : Nat) : List Nat := (List.range (m.log2 + 1)).filter m.testBit

/-! ### The objects numbered anew: by the slots that are kept -/
def posN : List Nat → Nat → Nat → Option Nat
  | [], _, _ => none
  | x :: xs, id, i => if x = id then some i else posN xs id (i + 1)
/-- A value without the frame's own objects. -/
def noId : Nat → V → Bool
  | _, .sl .. | _, .ptr .. => false
  | 0, .func .. | 0, .agg _ | 0, .tup _ | 0, .iface .. => false
  | k + 1, .func _ fi ca => fi.all (noId k) && ca.all (noId k)
  | k + 1, .agg cs | k + 1, .tup cs => cs.all (noId k)
  | k + 1, .iface _ v => noId k v
  | _, _ => true
def idsF : Nat → V → List Nat
  | _, .sl id _ _ _ => [id]
  | _, .ptr id _ _ => [id]
  | k + 1, .func _ fi ca => fi.flatMap (idsF k) ++ ca.flatMap (idsF k)
  | k + 1, .agg cs | k + 1, .tup cs => cs.flatMap (idsF k)
  | k + 1, .iface _ v => idsF k v
  | _, _ => []
def renI (ord : List Nat) (H : Nat → Option Ob) (id ver : Nat) (f : Nat → V) : V :=
  match H id, posN ord id 0 with
  | some ob, some j => if ob.ver = ver then f j else .any
  | _, _ => .any
def renV (ord : List Nat) (H : Nat → Option Ob) : Nat → V → V
  | _, .sl id ver off len => renI ord H id ver fun j => .sl j 0 off len
  | _, .ptr id ver off => renI ord H id ver fun j => .ptr j 0 off
  | k + 1, .func f fi ca => .func f (fi.map (renV ord H k)) (ca.map (renV ord H k))
  | k + 1, .agg cs => .agg (cs.map (renV ord H k))
  | k + 1, .tup cs => .tup (cs.map (renV ord H k))
  | k + 1, .iface t v => .iface t (renV ord H k v)
  | 0, .func .. | 0, .agg _ | 0, .tup _ | 0, .iface .. => .any
  | _, v => v
def renC (ord : List Nat) (H : Nat → Option Ob) (v : V) : V :=
  if noId depth v then v else
  match v with
  | .sl .. | .ptr .. => renV ord H depth v
  | _ => .any
def renO (ord : List Nat) (H : Nat → Option Ob) (ob : Ob) : Ob := { ob with ver := 0, cells := ob.cells.map (renC ord H) }
def dedupA : List Nat → List Nat → List Nat
  | [], acc => acc
  | x :: xs, acc => dedupA xs (if acc.contains x then acc else acc ++ [x])
def inside (H : Nat → Option Ob) (id : Nat) : List Nat := match H id with
  | some ob => ob.cells.flatMap (idsF depth)
  | none => []
def ordOf (keep : List Nat) (fr : Nat → V) (H : Nat → Option Ob) : List Nat :=
  let o := dedupA (keep.flatMap fun t => idsF depth (fr t)) []
  dedupA (o ++ o.flatMap (inside H)) []
def lookF : List (Nat × V) → Nat → V
  | [], _ => .any
  | (t, v) :: r, s => if s = t then v else lookF r s
def mkSt (tbl : List (Nat × V)) (objs : List (Option Ob)) (rs : Nat) : St := { fr := lookF tbl, H := fun j => objs.getD j none, nx := 64, rs := rs }
/-- Where slot 0 lives on by the results' bits, the first object keeps its number. -/
def pinH (ord : List Nat) (H : Nat → Option Ob) : Bool := match ord, H 0 with
  | 0 :: _, some ob => decide (ob.ver = 0)
  | _, _ => false
def canonW (keep : List Nat) (st : St) (ord : List Nat) : St :=
  if nodupB ord && decide (ord.length ≤ 64) && (!st.rs.testBit 0 || pinH ord st.H) then mkSt (keep.map fun t => (t, renV ord st.H depth (st.fr t))) (ord.map fun id => (st.H id).map (renO ord st.H)) st.rs else st
def canon (keep : List Nat) (st : St) : St := canonW keep st (ordOf keep st.fr st.H)
def headSt (E : Env) (items : List Item) (st : St) : St := if E.reb then canon (maskL (livK st.rs items).1) st else st

/-! ### Code -/
def execL (E : Env) (strict : Bool) (call : FuncId → List V → Option Res) : Nat → List Item → St → Option St
  | 0, _, _ => none
  | n + 1, items, st =>
    match items with
    | [] => some st
    | .code .ret :: _ => some st
    | .code .skip :: k | .code (.label _) :: k | .inBlock _ :: k | .inScope _ :: k => execL E strict call n k st
    | .code (.seq a b) :: k => execL E strict call n (.code a :: .code b :: k) st
    | .code (.cond c a b) :: k => match ev st.fr c with
      | some (.bool t) => execL E strict call n (.code (if t then a else b) :: k) st
      | _ => none
    | .code (.block id body) :: k => execL E strict call n (.code body :: .inBlock id :: k) st
    | .code (.loop body) :: k | .inLoop body :: k => execL E strict call n (.code body :: .inLoop body :: k) (headSt E (.inLoop body :: k) st)
    | .code (.scope body) :: k => execL E strict call n (.code body :: .inScope body :: k) st
    | .code (.exit id) :: k => match exitTo id k with
      | some k' => execL E strict call n k' st
      | none => none
    | .code (.goto l) :: k => match gotoIn l k with
      | some k' => execL E strict call n k' st
      | none => none
    | .code (.region _ ops draw) :: k =>
      match runO E strict call ops.toList ops.toList 0 st [] with
      | some (st', ds) =>
        if draw && !(statOk ops.toList && pairsOk E.modes ops.toList ds) then none else execL E strict call n k st'
      | none => none
    | _ => none

/-! ### A function -/
def St.enter (args : List V) : St :=
  { fr := fun t => (adoptT 0 args).1.getD t .undef, H := appW (fun _ => none) (adoptT 0 args).2, nx := 8 * args.length }

def resV (P : Program) (strict : Bool) (st : St) : ResultVar → Option V
  | .tmp t => some (st.fr t)
  | .cell a t => if strict then none else match loadD P false st.H st.nx t (st.fr a) with
    | some d => some d.v
    | none => none

/-- The content of an argument that was handed over, at the end; 'used': what the result has taken. -/
def outC (H : Nat → Option Ob) (used : List Nat) (b : Nat) : V → V
  | .uniq _ n _ => match getO H b 0 with
    | some ob => if n * ob.sz = ob.cells.length ∧ !used.contains b then
        (match expN H depth (.sl b 0 0 n) with
          | some u => u
          | none => .undef) else .undef
    | none => .undef
  | .uptr _ => if used.contains b then .undef else (ptrU H (.ptr b 0 0)).getD .undef
  | v => .undef
def outI (H : Nat → Option Ob) (b : Nat) (o : V) : List Nat :=
  match o with
  | .uniq _ n _ => eidN H depth (.sl b 0 0 n)
  | .uptr _ => [b]
  | _ => []
def outL (H : Nat → Option Ob) (used : List Nat) (b : Nat) : List V → List V
  | [] => []
  | v :: vs => outC H used b v :: outL H used (b + 1) vs
def outIL (H : Nat → Option Ob) (b : Nat) : List V → List Nat
  | [] => []
  | o :: os => outI H b o ++ outIL H (b + 1) os
def outA (H : Nat → Option Ob) (used : List Nat) (b : Nat) : V → V
  | .agg cs => .agg (outL H used b cs)
  | v => outC H used b v
def outAI (H : Nat → Option Ob) (b : Nat) : V → List Nat
  | .agg cs => outIL H b cs
  | o => outI H b o
def outs (H : Nat → Option Ob) (used : List Nat) (b : Nat) : List V → List V
  | [] => []
  | v :: vs => outA H used b v :: outs H used (b + 8) vs
def outsI (H : Nat → Option Ob) (b : Nat) : List V → List Nat
  | [] => []
  | o :: os => outAI H b o ++ outsI H (b + 8) os

/-- nil slices as slices owned: by the results' types. -/
def cellTys (P : Program) (t : TypeId) : List (Option Nat) :=
  match P.underlying t with
  | some (.slice e) => [(szT P e)]
  | some (.struct fs) => fs.toList.flatMap fun f => match P.underlying f.type with
    | some (.slice e) => [szT P e]
    | some (.struct gs) => gs.toList.map fun g => match P.underlying g.type with
      | some (.slice e) => szT P e
      | _ => none
    | _ => [none]
  | _ => [none]
def normC (t : Option Nat) (v : V) : V :=
  match v, t with
  | .nils, some sz => .uniq sz 0 []
  | v, _ => v
def normL : List (Option Nat) → List V → List V
  | t :: ts, v :: vs => normC t v :: normL ts vs
  | _, vs => vs
def normA (ts : List (Option Nat)) (v : V) : V :=
  match v with
  | .agg cs => .agg (normL ts cs)
  | v => normC (ts.headD none) v
def normR : List (List (Option Nat)) → List V → List V
  | t :: ts, v :: vs => normA t v :: normR ts vs
  | _, vs => vs

def oneV : List V → V
  | [e] => e
  | es => .tup es

/-- A result that is new. -/
def finFresh (P : Program) (strict : Bool) (fn : Func) (args : List V) (st : St) (vs es : List V) : Option Res :=
  let used := vs.flatMap (eidN st.H depth)
  let os := outs st.H used 0 args
  if nodupB (used ++ outsI st.H 0 os) && (os.all (treeN depth) || strict || flatO st.H (used ++ outsI st.H 0 os)) then
    some { fresh := true, v := oneV (normR (fn.resultTypes.toList.map (cellTys P)) es), outs := os }
  else none

/-- A result that is only read. -/
def finRead (strict : Bool) (args : List V) (st : St) (vs : List V) : Option Res :=
  match vs.mapM (purN st.H depth) with
  | some es =>
    let used := vs.flatMap (idsN st.H depth)
    let os := outs st.H used 0 args
    let own := outsI st.H 0 os
    if nodupB own && disjN own used && (strict || flatO st.H own) && es.all noTup then
      some { fresh := false, v := oneV es, outs := os }
    else none
  | none => none

/-- A result that is a pointer to an object of the frame's own. -/
def onlyP (H : Nat → Option Ob) : List V → Option V
  | [v] => ptrU H v
  | _ => none
def finPtr (strict : Bool) (args : List V) (st : St) (vs : List V) (u : V) : Option Res :=
  let used := vs.flatMap (ownI st.H)
  let os := outs st.H used 0 args
  if nodupB (used ++ outsI st.H 0 os) && (strict || flatO st.H (used ++ outsI st.H 0 os)) && !(os.map anyU).all (treeN depth) then
    some { fresh := true, v := u, outs := os.map anyU }
  else none

def finish (P : Program) (strict : Bool) (fn : Func) (args : List V) (st : St) : Option Res :=
  match fn.results.toList.mapM (resV P strict st) with
  | none => none
  | some vs =>
    match onlyP st.H vs with
    | some u => finPtr strict args st vs u
    | none =>
    match vs.mapM (expN st.H depth) with
    | some es => if es.all (fun e => treeN depth e && noTup e) then finFresh P strict fn args st vs es else finRead strict args st vs
    | none => finRead strict args st vs

/-- What holds at the end of a function's text. -/
def Ends (P : Program) (strict : Bool) (fn : Func) (args : List V) (r : Res) (st : St) : Prop := finish P strict fn args st = some r

/-- All slots lie in the frame. -/
def codeOk (nt : Nat) : Code → Bool
  | .region _ ops _ => ops.toList.all fun o => match o.dst with
    | some d => decide (d < nt)
    | none => true
  | .seq a b | .cond _ a b => codeOk nt a && codeOk nt b
  | .block _ c | .loop c | .scope c => codeOk nt c
  | .rangeFunc .. | .refuse _ => false
  | _ => true

def resM (fn : Func) : Nat := fn.results.toList.foldl (fun m r => match r with
  | .tmp t => m ||| 2 ^ t
  | .cell a _ => m ||| 2 ^ a) 0
/-- The first argument is a pointer that was handed over. -/
def pinned (args : List V) : Bool := match (adoptT 0 args).1 with
  | .ptr 0 0 0 :: _ => true
  | _ => false
def rebOk (args : List V) : Bool := match (adoptT 0 args).1 with
  | .ptr 0 0 0 :: vs => vs.all (noId depth)
  | vs => vs.all (noId depth)
def rsOf (fn : Func) (args : List V) : Nat := if pinned args then resM fn ||| 1 else resM fn
def envAt (E : Env) (args : List V) : Env := if E.reb && !rebOk args then { E with reb := false } else E
def St.start (E : Env) (fn : Func) (args : List V) : St := if E.reb then { St.enter args with rs := rsOf fn args } else St.enter args

def callF (E : Env) : Nat → FuncId → List V → Option Res
  | 0, _, _ => none
  | n + 1, f, args =>
    match E.prim f args with
    | some r => some r
    | none => match E.P.funcs[f]? with
      | some fn => match fn.body with
        | some c =>
          if args.length ≤ fn.ntmps ∧ args.all wideA ∧ codeOk fn.ntmps c ∧ fn.name ≠ "runtime.NumGoroutine" then
            (execL (envAt E args) (E.strict f) (callF E n) n [.code c] (St.start E fn args)).bind (finish E.P (E.strict f) fn args)
          else none
        | none => none
      | none => none

end Go.Proofs.Ytacfkfdnncgjcaa.Ev
