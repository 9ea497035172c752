/-
  GL, part A: a deterministic interpreter of the model's code over data by value. Definitions only. PV: values by value. 'lst full xs': a slice (nil let in) whose elements never change; 'full': no spare room. 'own d k n sz': a slice over the whole of block k of frame depth d, which holds n elements of sz cells. 'ptr d k off': a cell of a box. 'eptr ..': a cell of an owned block's element. 'rptr cs off': a cell of a row that never changes.
-/
import Derived.Orders
import Derived.Tactics
set_option linter.unusedSimpArgs false
set_option linter.unusedVariables false
/-! GL, part A: a deterministic interpreter of the model's code over data by value. Definitions only. PV: values by value. 'lst full xs': a slice (nil let in) whose elements never change; 'full': no spare room. 'own d k n sz': a slice over the whole of block k of frame depth d, which holds n elements of sz cells. 'ptr d k off': a cell of a box. 'eptr ..': a cell of an owned block's element. 'rptr cs off': a cell of a row that never changes. -/
namespace Go.GL

inductive PV where
  | bool (b : Bool)
  | int (k : IntKind) (n : Int)
  | str (s : ByteArray)
  | lst (full : Bool) (xs : List PV)
  | agg (cs : List PV)
  | tup (vs : List PV)
  | iface (t : TypeId) (v : PV)
  | nilIface
  | own (d k n sz : Nat)
  | ptr (d k off : Nat)
  | eptr (d k n i off : Nat)
  | rptr (cs : List PV) (off : Nat)
  | nilp
  | func (f : Fn) (first cap : List PV)
  | nilFunc
  | map (d k : Nat)
  | nilm
  | junk
  deriving Inhabited

/-- What is known of a type. -/
inductive TD where
  | bool | int (k : IntKind) | str | slice (e : Nat) | struct (fs : List (Nat × Nat)) | ptr (e : Nat) | map (k e : Nat) | iface | func | other
  deriving DecidableEq, Inhabited

inductive Blk where
  | box (cs : List PV)
  | arr (live : Bool) (sz : Nat) (xs : List PV)
  | mp (kd : TD) (es : List (PV × PV))
  | gone
  deriving Inhabited

abbrev Heap := List (List Blk)

structure TI where
  td : TD
  size : Nat
  bytes : Nat
  zero : PV
  cmp : Bool := false
  deriving Inhabited

def TD.isAgg : TD → Bool
  | .struct _ => true
  | _ => false

abbrev Tab := Nat → Option TI

inductive Ex where
  | normal | exit (id : Nat) | ret | panic (v : PV)

inductive Out where
  | ret (v : PV) | panic (v : PV)

structure St where
  env : Nat → PV
  L : List Blk
  H : Heap

/-- The oracle: what calls, and loops from a head on, come to. -/
structure Orc where
  call : FuncId → Nat → List PV → Heap → Option (Out × Heap)
  loop : Nat → Code → St → Option (Ex × St)
  back : FuncId → Option Nat

/-- What is told of functions on their own: by 'call'; 'back': the functions that tell a row's elements from its end, and the elements' type. -/
structure Spec where
  call : FuncId → Option (Orc → Nat → List PV → Heap → Option (Out × Heap))
  back : FuncId → Option Nat

/-! ### Pieces -/
def upd (env : Nat → PV) (i : Nat) (v : PV) : Nat → PV := fun j => if j = i then v else env j
theorem upd_self (env : Nat → PV) (i : Nat) (v : PV) : upd env i v i = v := if_pos rfl
theorem upd_ne (env : Nat → PV) (i j : Nat) (v : PV) (h : j ≠ i) : upd env i v j = env j := if_neg h

def undefP : PV := .tup []

def cellsOf : PV → List PV
  | .agg cs => cs
  | p => [p]

def atS : Heap → Nat → Nat → Option Blk
  | [], _, _ => none
  | L :: H, d, k => if d = H.length then L[k]? else atS H d k

def setS : Heap → Nat → Nat → Blk → Heap
  | [], _, _, _ => []
  | L :: H, d, k, b => if d = H.length then L.set k b :: H else L :: setS H d k b

def pushS : Heap → Blk → Heap
  | L :: H, b => (L ++ [b]) :: H
  | [], _ => []

def ofV : Value → PV
  | .bool b => .bool b
  | .int k n => .int k n
  | .string s => .str s
  | .slice none 0 0 => .lst true []
  | .pointer none => .nilp
  | .map none => .nilm
  | .nilFunc => .nilFunc
  | .nilIface => .nilIface
  | _ => .junk

def St.eval (s : St) : Operand → PV
  | .tmp t => s.env t
  | .const v => ofV v
  | .global _ => .junk
  | .func f => .func (.func f) [] []

def St.stack (s : St) : Heap := s.L :: s.H
def St.depth (s : St) : Nat := s.H.length

mutual
/-- Places that are in S, and none that are not. -/
def there (S : Heap) : PV → Bool
  | .own d k n _ | .eptr d k n _ _ => (match atS S d k with
    | some (.arr _ _ xs) => xs.length == n
    | _ => false)
  | .ptr d k _ => (match atS S d k with
    | some (.box _) => true
    | _ => false)
  | .map d k => (match atS S d k with
    | some (.mp _ _) => true
    | _ => false)
  | .agg cs | .tup cs => thereL S cs
  | .func _ fs cs => thereL S fs && thereL S cs
  | _ => true
def thereL (S : Heap) : List PV → Bool
  | [] => true
  | p :: ps => there S p && thereL S ps
end

mutual
/-- A value made data: rows of frame depth d are told by value; 'ro': rows that are still written are not let in. -/
def frz (S : Heap) (d : Nat) (ro : Bool) : PV → Option PV
  | .own d' k n sz => if d' = d then (match atS S d' k with
      | some (.arr live sz' xs) => if xs.length = n ∧ sz = sz' ∧ (ro && live) = false then some (.lst false xs) else none
      | _ => none) else if ro then none else some (.own d' k n sz)
  | .lst f xs => some (.lst f xs)
  | .agg cs => (frzL S d ro cs).map .agg
  | .tup vs => (frzL S d ro vs).map .tup
  | p => some p
def frzL (S : Heap) (d : Nat) (ro : Bool) : List PV → Option (List PV)
  | [] => some []
  | p :: ps => (frz S d ro p).bind fun q => (frzL S d ro ps).map (q :: ·)
end

mutual
/-- The rows in a value are written no more. -/
def shut (d : Nat) : PV → List Blk → List Blk
  | .own d' k _ _, L => if d' = d then (match L[k]? with
      | some (.arr _ sz xs) => L.set k (.arr false sz xs)
      | _ => L) else L
  | .agg cs, L => shutL d cs L
  | .tup vs, L => shutL d vs L
  | _, L => L
def shutL (d : Nat) : List PV → List Blk → List Blk
  | [], L => L
  | p :: ps, L => shutL d ps (shut d p L)
end

mutual
/-- Data: no place in memory that may be written, and none that ends with a frame. -/
def isData : PV → Bool
  | .bool _ | .int .. | .str _ | .lst .. | .nilIface => true
  | .iface _ v => isData v
  | .agg cs => isDataL cs
  | _ => false
def isDataL : List PV → Bool
  | [] => true
  | p :: ps => isData p && isDataL ps
end

/-- Data, or results that are. -/
def isDataT : PV → Bool
  | .tup vs => isDataL vs
  | p => isData p

mutual
/-- No place of a frame deeper than d. -/
def within (d : Nat) : PV → Bool
  | .own d' .. | .ptr d' .. | .eptr d' .. | .map d' _ => d' ≤ d
  | .agg cs | .tup cs => withinL d cs
  | .func _ fs cs => withinL d fs && withinL d cs
  | .junk => false
  | .rptr .. => true
  | _ => true
def withinL (d : Nat) : List PV → Bool
  | [] => true
  | p :: ps => within d p && withinL d ps
end

def splice (cells : List PV) (off : Nat) (new : List PV) : List PV := cells.take off ++ new ++ cells.drop (off + new.length)

/-- A variable's value out of cells. -/
def loadV (ti : TI) (cells : List PV) (off : Nat) : Option PV :=
  if ti.td.isAgg then (if off + ti.size ≤ cells.length then some (.agg ((cells.drop off).take ti.size)) else none) else cells[off]?

def pickV (b : Bool) (x y : PV) : PV := if b then x else y

inductive OpR where
  | val (v : PV) | panic (v : PV)

def lim : Nat := 70368744177664

/-- Of cells that each hold a value. -/
def flat : PV → Bool
  | .junk | .tup _ => false
  | _ => true

/-! ### Keys are numbers, texts or truths -/
def keyOk : TD → PV → Bool
  | .int k, .int k' _ => k == k'
  | .str, .str _ => true
  | .bool, .bool _ => true
  | _, _ => false
def keyEq : PV → PV → Bool
  | .int _ a, .int _ b => a == b
  | .str a, .str b => decide (a = b)
  | .bool a, .bool b => a == b
  | _, _ => false

section
variable (T : Tab) (O : Orc) (wl : Nat)

def fillS (fs : List (Nat × Nat)) (z : Nat) : List (Nat × PV) → List PV → Option (List PV)
  | [], cells => some cells
  | (i, x) :: rest, cells => match fs[i]? with
    | some (off, t) => match T t with
      | some ti => if (cellsOf x).length = ti.size ∧ off + ti.size ≤ z ∧ flat x = true then fillS fs z rest (splice cells off (cellsOf x)) else none
      | none => none
    | none => none

def fillE (sz len : Nat) : List (Nat × PV) → List PV → Option (List PV)
  | [], xs => some xs
  | (i, x) :: rest, xs => if i < len ∧ (cellsOf x).length = sz ∧ isData x = true then fillE sz len rest (xs.set i x) else none

def isBoolT (t : Nat) : Bool := match T t with
  | some ti => ti.td == .bool
  | none => false

def isIfaceT (t : Nat) : Bool := match T t with
  | some ti => ti.td == .iface
  | none => false

def isConst : Operand → Bool
  | .const _ => true
  | _ => false

/-- Fields of numbers, texts, truths: are they the same? -/
def eqFs : List (Nat × Nat) → List PV → List PV → Option Bool
  | [], _, _ => some true
  | f :: fs, xs, ys => match T f.2, xs[f.1]?, ys[f.1]? with
    | some fi, some a, some b => if keyOk fi.td a = true ∧ keyOk fi.td b = true then (bif keyEq a b then eqFs fs xs ys else some false) else none
    | _, _, _ => none
def eqAgg (op : BinOp) (t : Nat) (xs ys : List PV) : Option OpR :=
  match T t with
  | some ti => bif ti.cmp then (match ti.td with
    | .struct fs => (match op with
      | .eql => (eqFs T fs xs ys).map fun b => .val (.bool b)
      | .neq => (eqFs T fs xs ys).map fun b => .val (.bool (!b))
      | _ => none)
    | _ => none) else none
  | none => none

/-- c: one of the operands is written in the text. -/
def binOpP (op : BinOp) (t : Nat) (c : Bool) (x y : PV) : Option OpR :=
  match x, y with
  | .int k a, .int k' b => if k ≠ k' then none else match op with
    | .add => some (.val (.int k (k.wrap (a + b))))
    | .sub => some (.val (.int k (k.wrap (a - b))))
    | .mul => some (.val (.int k (k.wrap (a * b))))
    | .eql => some (.val (.bool (a == b)))
    | .neq => some (.val (.bool (a != b)))
    | .lss => some (.val (.bool (decide (a < b))))
    | .leq => some (.val (.bool (decide (a ≤ b))))
    | .gtr => some (.val (.bool (decide (a > b))))
    | .geq => some (.val (.bool (decide (a ≥ b))))
    | .quo => if b = 0 then some (.panic .junk) else some (.val (.int k (k.wrap (a.tdiv b))))
    | .rem => if b = 0 then some (.panic .junk) else some (.val (.int k (a.tmod b)))
    | _ => none
  | .str a, .str b => match op with
    | .eql => some (.val (.bool (decide (a = b))))
    | .neq => some (.val (.bool (!decide (a = b))))
    | .add => if a.size + b.size ≤ lim then some (.val (.str (a ++ b))) else none
    | .lss => some (.val (.bool (Go.Op.bytesLess a.toList b.toList)))
    | .gtr => some (.val (.bool (!(Go.Op.bytesLess a.toList b.toList || decide (a = b)))))
    | _ => none
  | .bool a, .bool b => if isBoolT T t then (match op with
    | .eql => some (.val (.bool (a == b)))
    | .neq => some (.val (.bool (a != b)))
    | _ => none) else none
  | .iface _ _, .nilIface => if isIfaceT T t then (match op with
    | .eql => some (.val (.bool false))
    | .neq => some (.val (.bool true))
    | _ => none) else none
  | .nilIface, .nilIface => if isIfaceT T t && c then (match op with
    | .eql => some (.val (.bool true))
    | .neq => some (.val (.bool false))
    | _ => none) else none
  | .agg xs, .agg ys => eqAgg T op t xs ys
  | _, _ => none

/-- An element of a row that doesn't change. -/
def pickE (ei : TI) (xs : List PV) (i : Nat) : Option OpR :=
  match xs[i]? with
  | some x => if (cellsOf x).length = ei.size then some (.val (.rptr (cellsOf x) 0)) else none
  | none => some (.panic .junk)

def indexP (t : Nat) (x i : PV) (S : Heap) : Option OpR :=
  match T t, i with
  | some ti, .int _ i => match ti.td with
    | .slice e => match T e with
      | some ei => match x with
        | .lst _ xs => if i < 0 then some (.panic .junk) else pickE ei xs i.toNat
        | .own d k n _ => match atS S d k with
          | some (.arr true sz xs) => if xs.length = n ∧ sz = ei.size ∧ 0 < sz then (if i < 0 ∨ (n : Int) ≤ i then some (.panic .junk) else some (.val (.eptr d k n i.toNat 0))) else none
          | some (.arr false sz xs) => if xs.length = n ∧ sz = ei.size then (if i < 0 then some (.panic .junk) else pickE ei xs i.toNat) else none
          | _ => none
        | _ => none
      | none => none
    | _ => none
  | _, _ => none

def loadP (t : Nat) (a : PV) (S : Heap) : Option PV :=
  match T t with
  | none => none
  | some ti => match a with
    | .ptr d k off => match atS S d k with
      | some (.box cs) => loadV ti cs off
      | _ => none
    | .eptr d k n i off => match atS S d k with
      | some (.arr true _ xs) => if xs.length = n then (match xs[i]? with
        | some x => loadV ti (cellsOf x) off
        | none => none) else none
      | _ => none
    | .rptr cs off => loadV ti cs off
    | _ => none

/-- How many elements. -/
def lenP : TD → PV → Option Nat
  | .slice _, .lst _ xs => some xs.length
  | .slice _, .own _ _ n _ => some n
  | .str, .str s => some s.size
  | .map _ _, .nilm => some 0
  | _, _ => none

/-! ### Maps -/
def mfind (k : PV) : List (PV × PV) → Option PV
  | [] => none
  | e :: es => bif keyEq k e.1 then some e.2 else mfind k es
def mput (k v : PV) : List (PV × PV) → List (PV × PV)
  | [] => [(k, v)]
  | e :: es => bif keyEq k e.1 then (k, v) :: es else e :: mput k v es
def lookR (z : PV) (ok : Bool) : Option PV → PV
  | some v => bif ok then .tup [v, .bool true] else v
  | none => bif ok then .tup [z, .bool false] else z
def lookM (kd : TD) (z : PV) (ok : Bool) (k : PV) : Option Blk → Option OpR
  | some (.mp kd' es) => if kd' = kd ∧ keyOk kd k = true then some (.val (lookR z ok (mfind k es))) else none
  | _ => none
def lookupP (T : Tab) (t : Nat) (m k : PV) (ok : Bool) (S : Heap) : Option OpR :=
  match T t with
  | some ti => match ti.td with
    | .map kt et => match T kt, T et with
      | some ki, some ei => match m with
        | .map d j => lookM ki.td ei.zero ok k (atS S d j)
        | .nilm => if keyOk ki.td k = true then some (.val (lookR ei.zero ok none)) else none
        | _ => none
      | _, _ => none
    | _ => none
  | none => none

/-- A part of a text. -/
def strCut (b : ByteArray) (lo hi : Option PV) : Option OpR :=
  match lo, hi with
  | none, some (.int _ h) => if h < 0 ∨ (b.size : Int) < h then some (.panic .junk) else some (.val (.str (b.extract 0 h.toNat)))
  | some (.int _ l), none => if l < 0 ∨ (b.size : Int) < l then some (.panic .junk) else some (.val (.str (b.extract l.toNat b.size)))
  | some (.int _ l), some (.int _ h) => if h < 0 ∨ (b.size : Int) < h ∨ l < 0 ∨ h < l then some (.panic .junk) else some (.val (.str (b.extract l.toNat h.toNat)))
  | _, _ => none

/-- A part of a row. -/
def lstCut (sz : Nat) (full : Bool) (xs : List PV) (lo hi : Option PV) : Option OpR :=
  match lo, hi with
  | none, some (.int _ h) => if h < 0 then some (.panic .junk) else if h ≤ xs.length then some (.val (.lst false (xs.take h.toNat))) else if full then some (.panic .junk) else none
  | some (.int _ l), none => if l < 0 ∨ (xs.length : Int) < l then some (.panic .junk) else if xs.all (fun x => (cellsOf x).length == sz) then some (.val (.lst full (xs.drop l.toNat))) else none
  | some (.int _ l), some (.int _ h) => if h < 0 then some (.panic .junk) else if h ≤ xs.length then
      (if l < 0 ∨ h < l then some (.panic .junk) else if xs.all (fun x => (cellsOf x).length == sz) then some (.val (.lst false ((xs.take h.toNat).drop l.toNat))) else none)
      else if full then some (.panic .junk) else none
  | _, _ => none

def sliceP (t : Nat) (x : PV) (lo hi : Option PV) : Option OpR :=
  match T t with
  | none => none
  | some ti => match ti.td, x with
    | .str, .str b => strCut b lo hi
    | .slice e, .lst full xs => match T e with
      | some ei => lstCut ei.size full xs lo hi
      | none => none
    | _, _ => none

/-- Operations that touch no state: what they tell. -/
def pureOp (o : Oper) (s : St) (S : Heap) : Option OpR :=
  match o.op with
  | .move x | .assign x => some (.val (s.eval x))
  | .pick c a b => match s.eval c with
    | .bool t => some (.val (pickV t (s.eval a) (s.eval b)))
    | _ => none
  | .build t parts => match T t with
    | some ti => match ti.td with
      | .struct fs => if fs.all (fun f => (T f.2).isSome) then (fillS T fs ti.size (parts.toList.map fun p => (p.1, s.eval p.2)) (cellsOf ti.zero)).map fun cs => .val (.agg cs) else none
      | _ => none
    | none => none
  | .load t a => (loadP T t (s.eval a) S).map .val
  | .nilCheck x => match s.eval x with
    | .nilp => some (.panic .junk)
    | .ptr d k off => some (.val (.ptr d k off))
    | .rptr cs off => some (.val (.rptr cs off))
    | _ => none
  | .binOp op t x y _ => binOpP T op t (isConst x || isConst y) (s.eval x) (s.eval y)
  | .unOp op _ x => match op, s.eval x with
    | .not, .bool b => some (.val (.bool (!b)))
    | .neg, .int k n => some (.val (.int k (k.wrap (-n))))
    | _, _ => none
  | .convert src dst x => match T src, T dst, s.eval x with
    | some _, some ti, .int _ n => match ti.td with
      | .int k => some (.val (.int k (k.wrap n)))
      | _ => none
    | some _, some ti, .str b => match ti.td with
      | .str => some (.val (.str b))
      | _ => none
    | _, _, _ => none
  | .makeInterface t x => match T t with
    | some ti => if ti.td = .iface ∨ isData (s.eval x) = false then none else some (.val (.iface t (s.eval x)))
    | none => none
  | .makeFunc fn first captured => some (.val (.func fn (first.toList.map s.eval) (captured.toList.map s.eval)))
  | .fieldAddr t x f => match T t with
    | some ti => match ti.td with
      | .struct fs => match fs[f]? with
        | some (off, ft) => match T ft with
          | some fti => if fti.size = 0 then none else match s.eval x with
            | .ptr d k o => some (.val (.ptr d k (o + off)))
            | .eptr d k n i o => some (.val (.eptr d k n i (o + off)))
            | .rptr cs o => some (.val (.rptr cs (o + off)))
            | _ => none
          | none => none
        | none => none
      | _ => none
    | none => none
  | .field t x f => match T t, s.eval x with
    | some ti, .agg cs => match ti.td with
      | .struct fs => match fs[f]? with
        | some (off, ft) => match T ft with
          | some fti => (loadV fti cs off).map .val
          | none => none
        | none => none
      | _ => none
    | _, _ => none
  | .indexAddr t x i => indexP T t (s.eval x) (s.eval i) S
  | .index t x i => match T t, s.eval x, s.eval i with
    | some ti, .str b, .int _ i => if ti.td = .str then (if h : 0 ≤ i ∧ i.toNat < b.size then some (.val (.int .u8 (b[i.toNat]'h.2).toNat)) else some (.panic .junk)) else none
    | _, _, _ => none
  | .slice t x lo hi none => sliceP T t (s.eval x) (lo.map s.eval) (hi.map s.eval)
  | .lookup t x i ok => lookupP T t (s.eval x) (s.eval i) ok S
  | .extract t i => match s.eval t with
    | .tup vs => (vs[i]?).map .val
    | _ => none
  | .typeAssert x _ asserted ok => match T asserted, s.eval x with
    | some ti, .iface t v => if ok = false ∨ ti.td = .iface then none else if t = asserted then some (.val (.tup [v, .bool true])) else some (.val (.tup [ti.zero, .bool false]))
    | _, _ => none
  | .panic x => match s.eval x with
    | .iface t v => some (.panic (.iface t v))
    | _ => none
  | .call c => match c.callee with
    | .builtin .len => match c.args.toList.map s.eval, (c.argTypes[0]?).bind T with
      | [x], some ti => (lenP ti.td x).map fun n => .val (.int .i64 n)
      | _, _ => none
    | .builtin .min => match c.args.toList.map s.eval with
      | [.int k a, .int _ b] => some (.val (.int k (if b < a then b else a)))
      | _ => none
    | .builtin .max => match c.args.toList.map s.eval with
      | [.int k a, .int _ b] => some (.val (.int k (if a < b then b else a)))
      | _ => none
    | _ => none
  | _ => none

/-- The new block of an operation that makes one, and what it tells; 'k': the block's number. -/
def makeOp (o : Oper) (s : St) (S : Heap) (d k : Nat) : Option (PV × Blk) :=
  match o.op with
  | .alloc t => (T t).map fun ti => (.ptr d k 0, .box (cellsOf ti.zero))
  | .box t x => match T t with
    | some ti => if (cellsOf (s.eval x)).length = ti.size ∧ flat (s.eval x) = true then some (.ptr d k 0, .box (cellsOf (s.eval x))) else none
    | none => none
  | .buildSlice t len parts => match T t with
    | some ti => match ti.td with
      | .slice e => match T e with
        | some ei => match frzL S d true (parts.toList.map fun p => s.eval p.2) with
          | some vs => if isData ei.zero = true ∧ (cellsOf ei.zero).length = ei.size ∧ len * ei.size ≤ 16777216 then
              (fillE ei.size len ((parts.toList.map (·.1)).zip vs) (List.replicate len ei.zero)).map fun xs => (.lst true xs, .gone) else none
          | none => none
        | none => none
      | _ => none
    | none => none
  | .makeSlice t l c => match T t, s.eval l, s.eval c with
    | some ti, .int _ l, .int _ c => match ti.td with
      | .slice e => match T e with
        | some ei => if 0 ≤ l ∧ l ≤ c ∧ 0 < ei.bytes ∧ c * ei.bytes ≤ lim ∧ isData ei.zero = true ∧ (cellsOf ei.zero).length = ei.size then
            some (.own d k l.toNat ei.size, .arr true ei.size (List.replicate l.toNat ei.zero)) else none
        | none => none
      | _ => none
    | _, _, _ => none
  | .makeMap t none => match T t with
    | some ti => match ti.td with
      | .map kt _ => match T kt with
        | some ki => some (.map d k, .mp ki.td [])
        | none => none
      | _ => none
    | none => none
  | _ => none

def isMake : Op → Bool
  | .alloc _ | .box .. | .buildSlice .. | .makeSlice .. | .makeMap .. => true
  | _ => false

/-- A store. -/
def storeS (t : Nat) (a x : PV) (S : Heap) : Option Heap :=
  match T t with
  | none => none
  | some ti => if (cellsOf x).length ≠ ti.size ∨ flat x = false then none else match a with
    | .ptr d k off => if (wl ≤ d ∨ d + 1 = S.length) ∧ within d x = true then (match atS S d k with
        | some (.box cs) => if off + ti.size ≤ cs.length then some (setS S d k (.box (splice cs off (cellsOf x)))) else none
        | _ => none) else none
    | .eptr d k n i off => if (wl ≤ d ∨ d + 1 = S.length) ∧ isData x = true then (match atS S d k with
        | some (.arr true sz xs) => if xs.length = n ∧ off + ti.size ≤ sz ∧ i < n then
            (if ti.td.isAgg = false ∧ sz = 1 ∧ off = 0 then some (setS S d k (.arr true sz (xs.set i x)))
             else match xs[i]? with
              | some (.agg cs) => some (setS S d k (.arr true sz (xs.set i (.agg (splice cs off (cellsOf x))))))
              | _ => none) else none
        | _ => none) else none
    | _ => none

/-- A map's store. -/
def putM (kd : TD) (d j : Nat) (k v : PV) (S : Heap) : Option Blk → Option Heap
  | some (.mp kd' es) => if kd' = kd ∧ keyOk kd k = true then some (setS S d j (.mp kd (mput k v es))) else none
  | _ => none
def mapS (t : Nat) (m k v : PV) (S : Heap) : Option Heap :=
  match T t with
  | some ti => match ti.td with
    | .map kt _ => match T kt with
      | some ki => match m with
        | .map d j => if (wl ≤ d ∨ d + 1 = S.length) ∧ within d v = true then putM ki.td d j k v S (atS S d j) else none
        | _ => none
      | none => none
    | _ => none
  | none => none

def withStack (s : St) : Heap → Option St
  | L :: H => some { s with L := L, H := H }
  | [] => none

/-- A call of a function value. -/
def targetOf (f : PV) (args : List PV) : Option (FuncId × List PV) :=
  match f with
  | .func (.func g) first cap => some (g, first ++ args ++ cap)
  | _ => none

/-- What is appended. -/
def rowOf (ei : TI) (S : Heap) : PV → Option (List PV)
  | .lst _ ys => if ys.all (fun x => (cellsOf x).length == ei.size) then some ys else none
  | .own d' k' n _ => (match atS S d' k' with
    | some (.arr _ sz ys) => if ys.length = n ∧ sz = ei.size then some ys else none
    | _ => none)
  | _ => none

/-- append(a, b): k: the number of a new block. -/
def appendP (e : Nat) (a b : PV) (S : Heap) (d k : Nat) : Option (PV × (Heap → Heap)) :=
  match T e with
  | none => none
  | some ei =>
    match rowOf ei S b with
    | none => none
    | some ys => match a with
      | .lst true xs => if 0 < ei.bytes ∧ (xs.length + ys.length) * ei.bytes ≤ lim ∧ xs.all (fun x => (cellsOf x).length == ei.size) = true then
          (if ys.isEmpty then some (.lst true xs, id)
           else some (.own d k (xs.length + ys.length) ei.size, fun S => pushS S (.arr true ei.size (xs ++ ys)))) else none
      | .own d' k' n sz => match atS S d' k' with
        | some (.arr true sz' xs) => if xs.length = n ∧ sz' = sz ∧ sz = ei.size ∧ (wl ≤ d' ∨ d' = d) ∧ 0 < ei.bytes ∧ (n + ys.length) * ei.bytes ≤ lim then
            some (.own d' k' (n + ys.length) sz, fun S => setS S d' k' (.arr true sz (xs ++ ys))) else none
        | _ => none
      | _ => none

/-- A call, the world being the text's. -/
def callOp (f : Operand) (args : Array Operand) (s : St) : Option (OpR × St) :=
  match targetOf (s.eval f) (args.toList.map s.eval) with
  | some (g, args) => match frzL s.stack s.depth false args with
    | some args' => match O.call g wl args' (shutL s.depth args s.L :: s.H) with
      | some (.ret v, S) => (withStack s S).map fun s => (.val v, s)
      | some (.panic v, S) => (withStack s S).map fun s => (.panic v, s)
      | none => none
    | none => none
  | none => none

def appendOp (args : Array Operand) (tys : Array TypeId) (s : St) : Option (OpR × St) :=
  match args.toList.map s.eval, (tys[0]?).bind T, (tys[1]?).bind T with
  | [a, b], some ti, some tj => match ti.td, tj.td with
    | .slice e, .slice _ => match appendP T wl e a b s.stack s.depth s.L.length with
      | some (v, g) => (withStack s (g s.stack)).map fun s => (.val v, s)
      | none => none
    | _, _ => none
  | _, _, _ => none

def storeOp (t : Nat) (a x : Operand) (s : St) : Option (OpR × St) :=
  (storeS T wl t (s.eval a) (s.eval x) s.stack).bind fun S => (withStack s S).map fun s => (.val undefP, s)

def mapOp (t : Nat) (m k x : Operand) (s : St) : Option (OpR × St) :=
  (mapS T wl t (s.eval m) (s.eval k) (s.eval x) s.stack).bind fun S => (withStack s S).map fun s => (.val undefP, s)

def shutOps (s : St) : Op → List Blk
  | .buildSlice _ _ parts => shutL s.depth (parts.toList.map fun p => s.eval p.2) s.L
  | _ => s.L

def makeOpR (o : Oper) (s : St) : Option (OpR × St) :=
  match makeOp T o s (shutOps s o.op :: s.H) s.depth s.L.length with
  | some (v, b) => some (.val v, { s with L := shutOps s o.op ++ [b] })
  | none => none

/-- A part of a row; a row of the frame's own is written no more from then on. -/
def cutOp (o : Oper) (j : Nat) (s : St) : Option (OpR × St) :=
  match frz s.stack s.depth false (s.env j) with
  | some v => (pureOp T o ⟨upd s.env j v, shutL s.depth [s.env j] s.L, s.H⟩ (shutL s.depth [s.env j] s.L :: s.H)).map fun r => (r, { s with L := shutL s.depth [s.env j] s.L })
  | none => none

/-- Any operation, the region's order being the text's. -/
def opRun (o : Oper) (s : St) : Option (OpR × St) :=
  match o.op with
  | .slice _ (.tmp j) _ _ _ => cutOp T o j s
  | .store t a x => storeOp T wl t a x s
  | .call ⟨.value f, args, _⟩ => callOp O wl f args s
  | .call ⟨.builtin .append, args, tys⟩ => appendOp T wl args tys s
  | .insert t m k x => mapOp T wl t m k x s
  | .mapUpdate t m k x => mapOp T wl t m k x s
  | op => if isMake op then makeOpR T o s else (pureOp T o s s.stack).map fun r => (r, s)

/-- The guard's slot. -/
def guardP (ops : Array Oper) (s : St) (j : Nat) : Option PV := ((ops[j]?).bind (·.dst)).map s.env

def wantedP (ops : Array Oper) (o : Oper) (s : St) : Option Bool :=
  match o.guard with
  | none => some true
  | some (j, w) => match guardP ops s j with
    | some (.bool b) => some (b == w)
    | some .junk => none
    | _ => some false

def St.put (s : St) (dst : Option Nat) (v : PV) : St :=
  match dst with
  | some d => { s with env := upd s.env d v }
  | none => s

def stepOp (ops : Array Oper) (o : Oper) (s : St) : Option (OpR × St) :=
  match wantedP ops o s with
  | some b => if b then opRun T O wl o s else some (.val undefP, s)
  | none => none

def runOps (ops : Array Oper) : List Oper → St → Option (Ex × St)
  | [], s => some (.normal, s)
  | o :: os, s => match stepOp T O wl ops o s with
    | some (.val v, s) => runOps ops os (s.put o.dst v)
    | some (.panic v, s) => some (.panic v, s)
    | none => none

/-! ### Regions that draw their order: all that reads, reads the state ahead of the region -/
def usesState : Op → Bool
  | .load .. | .alloc _ | .box .. | .buildSlice .. | .makeSlice .. | .indexAddr .. | .store .. | .makeMap .. | .lookup .. | .insert .. | .mapUpdate .. => true
  | .call c => match c.callee with
    | .builtin .len | .builtin .min | .builtin .max => false
    | _ => true
  | _ => false
def isStore : Op → Bool
  | .store .. => true
  | _ => false

def isRead : Op → Bool
  | .load .. | .indexAddr .. => true
  | _ => false
def isGc : Ground → Bool
  | .gcOnly _ => true
  | _ => false
def isBox : Op → Bool
  | .alloc _ | .box .. => true
  | _ => false
/-- A store into a box that the region itself lays. -/
def newSt (ops : Array Oper) (o : Oper) : Bool :=
  match o.op with
  | .store _ (.tmp a) _ => ops.any fun p => p.dst == some a && isBox p.op
  | _ => false
def hard (ops : Array Oper) (o : Oper) : Bool := isStore o.op && !newSt ops o
/-- A read that may come behind a store: it must read what never changes. -/
def lateOf (ops : Array Oper) (o : Oper) : Bool := isRead o.op && (o.after.any (fun e => isGc e.ground) && ops.any (hard ops))
def usesNow (ops : Array Oper) (o : Oper) : Bool := usesState o.op && !lateOf ops o

def isApp : Op → Bool
  | .call ⟨.builtin .append, _, _⟩ => true
  | _ => false
def isCallV : Op → Bool
  | .call ⟨.value _, _, _⟩ => true
  | _ => false
/-- May stand beside an append that no edge binds it to. -/
def quiet (o : Op) : Bool := !isMake o && !isStore o && !isCallV o && !isApp o

/-- i ahead of j in the text: may they change places? -/
def freeOf (ops : Array Oper) (x y : Oper) : Bool :=
  Oper.apart ops x y && !(hard ops x && usesNow ops y) && !(hard ops y && usesNow ops x) && !(newSt ops x && (isMake y.op || isStore y.op || isCallV y.op)) && !(newSt ops y && (isMake x.op || isStore x.op || isCallV x.op))
    && !(isApp x.op && !quiet y.op) && !(isApp y.op && !quiet x.op)

/-- All that may not change places is bound by edges; nothing reads behind a store. -/
def drawOk (ops : Array Oper) : Bool :=
  let b := Region.before ops
  Region.noSelect ops && ((List.range ops.size).all fun j => match ops[j]? with
    | some y => y.after.all fun e => !Region.binds .any e || decide (e.on < j)
    | none => true) && (List.range ops.size).all fun j => (List.range j).all fun i =>
    (match ops[i]?, ops[j]? with
      | some x, some y => ((b.getD j 0).testBit i || freeOf ops x y) && !(hard ops x && usesNow ops y && !isStore y.op)
      | _, _ => true)

/-- All behind operation i wait for it, and it for all ahead of it. -/
def allWait (ops : Array Oper) (i : Nat) : Bool :=
  (List.range ops.size).all fun j => j == i || (if j < i then ((Region.before ops).getD i 0).testBit j else ((Region.before ops).getD j 0).testBit i)

/-- A row that a call hands on, laid at a place of the region's own. -/
def keptR (sl : Bool) (d k0 k : Nat) (v : PV) (S : Heap) : Option (PV × Blk) :=
  match v, S with
  | .own d' k' n sz, L :: _ => if d' = d ∧ k' = k0 then (match L[k']? with
      | some (.arr true sz' xs) => if xs.length = n ∧ sz' = sz then some (bif sl then .lst false xs else .own d k n sz, .arr (!sl) sz xs) else none
      | _ => none) else none
  | _, _ => none
def retDraw (sl : Bool) (L0 : List Blk) (i : Nat) (s : St) : Option (Out × Heap) → Option (OpR × St)
  | some (.ret v, S) => if isDataT v then some (.val v, s) else (keptR sl s.depth L0.length (L0.length + i) v S).map fun q => (.val q.1, { s with L := s.L.set (L0.length + i) q.2 })
  | some (.panic v, _) => if isData v then some (.panic v, s) else none
  | none => none

def callDraw (sl : Bool) (L0 : List Blk) (i : Nat) (f : Operand) (args : Array Operand) (s : St) : Option (OpR × St) :=
  match targetOf (s.eval f) (args.toList.map s.eval) with
  | some (g, args) => match frzL (L0 :: s.H) s.depth true args with
    | some args' => if thereL (L0 :: s.H) args' then retDraw sl L0 i s (O.call g (s.depth + 1) args' (L0 :: s.H)) else none
    | none => none
  | none => none

/-- append to a row that the region has laid: it is written no more. -/
def appOut (L0 : List Blk) (d len : Nat) : Option (PV × (Heap → Heap)) → Heap → Option (PV × Nat × Blk)
  | some (.own d' k n sz, g), S => if d' = d ∧ L0.length ≤ k ∧ k < len then (match g S with
      | L :: _ => (match L[k]? with
        | some (.arr true sz' xs) => if xs.length = n ∧ sz' = sz then some (.lst false xs, k, .arr false sz xs) else none
        | _ => none)
      | [] => none) else none
  | _, _ => none
def appRead (L0 : List Blk) (args : Array Operand) (tys : Array TypeId) (s : St) : Option (PV × Nat × Blk) :=
  match args.toList.map s.eval, (tys[0]?).bind T, (tys[1]?).bind T with
  | [a, b], some ti, some tj => match ti.td, tj.td with
    | .slice e, .slice _ => appOut L0 s.depth s.L.length (appendP T wl e a b s.stack s.depth s.L.length) s.stack
    | _, _ => none
  | _, _, _ => none
def appDraw (L0 : List Blk) (args : Array Operand) (tys : Array TypeId) (s : St) : Option (OpR × St) :=
  (appRead T wl L0 args tys s).map fun q => (.val q.1, { s with L := s.L.set q.2.1 q.2.2 })

def makeDraw (L0 : List Blk) (i : Nat) (o : Oper) (s : St) : Option (OpR × St) :=
  match makeOp T o s (L0 :: s.H) s.depth (L0.length + i) with
  | some (v, b) => some (.val v, { s with L := s.L.set (L0.length + i) b })
  | none => none

def opDraw (L0 : List Blk) (i : Nat) (o : Oper) (s : St) : Option (OpR × St) :=
  match o.op with
  | .store t a x => storeOp T wl t a x s
  | .call ⟨.value f, args, _⟩ => callDraw O false L0 i f args s
  | .call ⟨.builtin .append, args, tys⟩ => appDraw T wl L0 args tys s
  | .insert .. => none
  | .mapUpdate .. => none
  | op => if isMake op then makeDraw T L0 i o s else (pureOp T o s (L0 :: s.H)).map fun r => (r, s)

/-- A call whose row another call of the region takes, and no append: it is written no more. -/
def isTmp (d : Nat) : Operand → Bool
  | .tmp t => t == d
  | _ => false
def takes (d : Nat) (o : Oper) : Bool := match o.op with
  | .call ⟨.value _, args, _⟩ => args.any (isTmp d)
  | _ => false
def grows (d : Nat) (o : Oper) : Bool := match o.op with
  | .call ⟨.builtin .append, args, _⟩ => args.any (isTmp d)
  | _ => false
def sealOp (ops : Array Oper) (o : Oper) : Bool := isCallV o.op && match o.dst with
  | some d => ops.any (takes d) && !ops.any (grows d)
  | none => false
def sealDraw (L0 : List Blk) (i : Nat) (o : Oper) (s : St) : Option (OpR × St) :=
  match o.op with
  | .call ⟨.value f, args, _⟩ => callDraw O true L0 i f args s
  | _ => none

/-- A store into a box of the region's own. -/
def ownStore (L0 : List Blk) (t : Nat) (a x : PV) (s : St) : Option St :=
  match a with
  | .ptr d k off => if d = s.H.length ∧ L0.length ≤ k then (storeS T wl t (.ptr d k off) x s.stack).bind (withStack s) else none
  | _ => none
def ownOp (L0 : List Blk) (o : Oper) (s : St) : Option (OpR × St) :=
  match o.op with
  | .store t a x => (ownStore T wl L0 t (s.eval a) (s.eval x) s).map fun s => (.val undefP, s)
  | _ => none
def opSoft (ops : Array Oper) (L0 : List Blk) (i : Nat) (o : Oper) (s : St) : Option (OpR × St) :=
  bif lateOf ops o then (pureOp T o s []).map (fun r => (r, s)) else bif newSt ops o then ownOp T wl L0 o s else bif sealOp ops o then sealDraw O L0 i o s else opDraw T O wl L0 i o s

def stepDraw (ops : Array Oper) (L0 : List Blk) (i : Nat) (o : Oper) (s : St) : Option (OpR × St) :=
  match wantedP ops o s with
  | some b => if b then opSoft T O wl ops L0 i o s else some (.val undefP, s)
  | none => none

def runDraw (ops : Array Oper) (L0 : List Blk) : Nat → List Oper → St → Option (Ex × St)
  | _, [], s => some (.normal, s)
  | i, o :: os, s => match stepDraw T O wl ops L0 i o s with
    | some (.val v, s) => runDraw ops L0 (i + 1) os (s.put o.dst v)
    | some (.panic v, s) => if allWait ops i then some (.panic v, s) else none
    | none => none

/-- Held once for a function: slots are those of the frame; regions that draw are such as 'runDraw' asks. -/
def wfOps (n : Nat) (ops : Array Oper) : Bool := ops.all fun o => match o.dst with
  | some d => decide (d < n)
  | none => true
/-- Code that may stand in a round of a range over a function. -/
def inCode : Code → Bool
  | .region _ _ draw => !draw
  | .seq a b | .cond _ a b => inCode a && inCode b
  | .block _ c => inCode c
  | .skip | .exit _ | .ret => true
  | _ => false
def wfCode (n : Nat) : Code → Bool
  | .region _ ops draw => wfOps n ops && (!draw || drawOk ops)
  | .seq a b | .cond _ a b => wfCode n a && wfCode n b
  | .block _ c | .loop c => wfCode n c
  | .skip | .exit _ | .ret => true
  | _ => false
/-- Ranges over functions stand in no loop, and in no round. -/
def wfCodeR (n : Nat) : Code → Bool
  | .seq a b | .cond _ a b => wfCodeR n a && wfCodeR n b
  | .block _ c => wfCodeR n c
  | .rangeFunc _ ps a c => (ps.all fun p => decide (p < n)) && wfCode n a && wfCode n c && inCode a && inCode c
  | c => wfCode n c
def wfFunc (fn : Func) : Bool := fn.name != "runtime.NumGoroutine" && match fn.body with
  | some c => wfCodeR fn.ntmps c
  | none => false

/-- The rounds of a range over a row from its end: i: how many are still to come. -/
def backR (A B : St → Option (Ex × St)) (p q : Nat) (ei : TI) (env : Nat → PV) (xs : List PV) : Nat → List Blk → Heap → Option (Ex × St)
  | 0, L, H => some (.normal, ⟨env, L, H⟩)
  | i + 1, L, H => match (xs[i]?).bind fun x => loadV ei (cellsOf x) 0 with
    | some y => match A ⟨upd (upd env p (.int .i64 i)) q y, L, H⟩ with
      | some (.normal, s1) => match B s1 with
        | some (.normal, s2) => backR A B p q ei env xs i s2.L s2.H
        | some (ex, s2) => some (ex, ⟨env, s2.L, s2.H⟩)
        | none => none
      | _ => none
    | none => none

/-- What a range over a function goes through: from its end. -/
def rowsP : PV → Option (FuncId × List PV)
  | .func (.func g) [] [.rptr [.lst _ xs] 0] => some (g, xs)
  | _ => none

def rangeP (ps : Array Nat) (g : PV) : Option (Nat × Nat × TI × List PV) :=
  match ps.toList, rowsP g with
  | [p, q], some (f, xs) => match (O.back f).bind T with
    | some ei => if xs.length ≤ lim ∧ xs.all (fun x => (cellsOf x).length == ei.size) = true then some (p, q, ei, xs) else none
    | none => none
  | _, _ => none

/-! ### Code -/
def run : Code → St → Option (Ex × St)
  | .skip, s => some (.normal, s)
  | .region _ ops false, s => runOps T O wl ops ops.toList s
  | .region _ ops true, s => runDraw T O wl ops s.L 0 ops.toList { s with L := s.L ++ List.replicate ops.size .gone }
  | .seq a b, s => match run a s with
    | some (.normal, s) => run b s
    | r => r
  | .cond c a b, s => match s.eval c with
    | .bool t => if t then run a s else run b s
    | _ => none
  | .block id c, s => match run c s with
    | some (.exit id', s) => if id' = id then some (.normal, s) else some (.exit id', s)
    | r => r
  | .loop c, s => match run c s with
    | some (.normal, s) => O.loop wl c s
    | r => r
  | .exit id, s => some (.exit id, s)
  | .ret, s => some (.ret, s)
  | .rangeFunc g ps asg body, s => match rangeP T O ps (s.eval g) with
    | some (p, q, ei, xs) => backR (run asg) (run body) p q ei s.env xs xs.length s.L s.H
    | none => none
  | _, _ => none

/-- The results, read where the body ends. -/
def readR (s : St) : List ResultVar → Option (List PV)
  | [] => some []
  | .tmp t :: rs => (readR s rs).map (s.env t :: ·)
  | .cell a t :: rs => (loadP T t (s.env a) s.stack).bind fun v => (readR s rs).map (v :: ·)

def tupled : List PV → PV
  | [v] => v
  | vs => .tup vs

variable (fns : FuncId → Option Func) (keep : FuncId → Bool) (X : Spec)

/-- What leaves a frame: rows of its own are told by value, or, one alone that 'keep' names, handed on. -/
def leave (f : FuncId) (s : St) (v : PV) : Option (Out × Heap) :=
  match keep f, v, s.H with
  | true, .own d k n sz, L :: H => if d = s.depth then (match s.L[k]? with
      | some (.arr true sz' xs) => if xs.length = n ∧ sz' = sz then some (.ret (.own H.length L.length n sz), (L ++ [.arr true sz xs]) :: H) else none
      | _ => none) else none
  | _, v, H => match frz s.stack s.depth false v with
    | some v' => if within (s.depth - 1) v' && decide (0 < s.depth) then some (.ret v', H) else none
    | none => none

def callBody (f : FuncId) (args : List PV) (H : Heap) : Option (Out × Heap) :=
  match fns f with
  | none => none
  | some fn => match fn.body with
    | none => none
    | some c => if fn.ntmps < args.length ∨ wfFunc fn = false then none else
      match run T O wl c { env := fun i => (args[i]?).getD undefP, L := [], H := H } with
      | some (.ret, s) | some (.normal, s) => match readR T s fn.results.toList with
        | some vs => leave keep f s (tupled vs)
        | none => none
      | some (.panic v, s) => if isData v then some (.panic v, s.H) else none
      | _ => none


/-- One round more. -/
def nextO : Orc where
  back := X.back
  call := fun f wl args H => match X.call f with
    | some g => g O wl args H
    | none => callBody T O wl fns keep f args H
  loop := fun wl c s => run T O wl (.loop c) s

end
end Go.GL
