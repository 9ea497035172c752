/-
  GL, data: datas, scopes; what sorts terms have.
-/
import Derived.Test.YtafgloejojikoaaMGdA
import Derived.Test.YtafgloejojikoaaMGlLo
set_option linter.unusedSimpArgs false
set_option linter.unusedVariables false
/-! GL, data: datas, scopes; what sorts terms have. -/
namespace Go.GL

abbrev bInt : ByteArray := ⟨#[105, 110, 116]⟩
abbrev bBool : ByteArray := ⟨#[98, 111, 111, 108]⟩
abbrev bTag : ByteArray := ⟨#[116, 97, 103]⟩
abbrev bNil : ByteArray := ⟨#[]⟩

structure Cn where
  nm : ByteArray
  ff : Bool
  fs : List ByteArray
structure Dt where
  nm : ByteArray
  cf : Bool
  cs : List Cn
def encF (l : List ByteArray) : List PV := l.map .str
def Cn.enc (c : Cn) : PV := .agg [.str c.nm, .lst c.ff (encF c.fs)]
def encC (l : List Cn) : List PV := l.map Cn.enc
def Dt.enc (d : Dt) : PV := .agg [.str d.nm, .lst d.cf (encC d.cs)]
def encD (l : List Dt) : List PV := l.map Dt.enc
abbrev Sc := ByteArray × ByteArray
def encS1 (s : Sc) : PV := .agg [.str s.1, .str s.2]
def encS (l : List Sc) : List PV := l.map encS1
@[simp high] theorem encF_get (l : List ByteArray) (i : Nat) : (encF l)[i]? = (l[i]?).map PV.str := by simp [encF]
@[simp high] theorem encC_get (l : List Cn) (i : Nat) : (encC l)[i]? = (l[i]?).map Cn.enc := by simp [encC]
@[simp high] theorem encD_get (l : List Dt) (i : Nat) : (encD l)[i]? = (l[i]?).map Dt.enc := by simp [encD]
@[simp high] theorem encS_get (l : List Sc) (i : Nat) : (encS l)[i]? = (l[i]?).map encS1 := by simp [encS]
@[simp] theorem encF_len (l : List ByteArray) : (encF l).length = l.length := by simp [encF]
@[simp] theorem encC_len (l : List Cn) : (encC l).length = l.length := by simp [encC]
@[simp] theorem encD_len (l : List Dt) : (encD l).length = l.length := by simp [encD]
@[simp] theorem encS_len (l : List Sc) : (encS l).length = l.length := by simp [encS]

/-- Is it a data's sort? A sort at all? -/
def isD (ds : List Dt) (s : ByteArray) : Bool := decide (s ≠ bInt) && decide (s ≠ bBool) && ds.any fun d => decide (d.nm = s)
def isB (ds : List Dt) (s : ByteArray) : Bool := decide (s = bInt) || decide (s = bBool) || isD ds s

def findC : List Dt → ByteArray → Option (Dt × Cn)
  | [], _ => none
  | d :: ds, nm => match d.cs.find? fun c => decide (c.nm = nm) with
    | some c => some (d, c)
    | none => findC ds nm

def byteAt (b : ByteArray) (i : Nat) : Nat := if h : i < b.size then (b[i]'h).toNat else 0

@[simp] theorem byteAt_eq (b : ByteArray) (i : Nat) (h : i < b.size) : (b[i]'h).toNat = byteAt b i := by simp [byteAt, h]

/-- Of lengths that numbers hold. -/
def okD (ds : List Dt) : Prop := ds.length < 1000000000000 ∧ ∀ d ∈ ds, d.cs.length < 1000000000000 ∧ ∀ c ∈ d.cs, c.fs.length < 1000000000000

/-- A name's last two bytes: a dot, a digit. -/
def dotted (nm : ByteArray) : Bool := decide (2 ≤ nm.size) && decide (byteAt nm (nm.size - 2) = 46) && decide (48 ≤ byteAt nm (nm.size - 1)) && decide (byteAt nm (nm.size - 1) ≤ 57)

/-- A function's sorts. -/
def fnOf (ds : List Dt) (nm : ByteArray) : Option (ByteArray × ByteArray) :=
  if nm = bTag then some (bNil, bInt) else if dotted nm = true then
    match findC ds (nm.extract 0 (nm.size - 2)) with
    | some (d, c) => (c.fs[byteAt nm (nm.size - 1) - 48]?).map fun s => (d.nm, s)
    | none => none
  else none

def fnRes : Option (ByteArray × ByteArray) → List PV
  | some (f, t) => [.str f, .str t, .bool true]
  | none => [.str bNil, .str bNil, .bool false]

/-- The last entry of a name. -/
def lastS (ss : List Sc) (nm : ByteArray) : Option ByteArray := (ss.reverse.find? fun s => decide (s.1 = nm)).map (·.2)

def many (k : Nat) : Option (Option Nat) :=
  if k = 1 ∨ k = 2 ∨ k = 3 ∨ k = 4 then some (some 0) else if k = 6 ∨ k = 7 ∨ k = 10 then some (some 1) else if k = 8 ∨ k = 9 ∨ k = 13 then some (some 2) else if k = 5 ∨ k = 11 ∨ k = 12 then some none else none

/-- A row of digits that is right; a number. -/
def rightD (l : List Nat) : Bool := l.all (fun d => decide (d < 1000000000)) && (match l.getLast? with
  | none => true
  | some d => decide (d ≠ 0))
def rightN (ng : Bool) (l : List Nat) : Bool := rightD l && (!ng || decide (l.length ≠ 0))

def manyOk : Option Nat → Nat → Bool
  | none, _ => true
  | some n, m => decide (n = m)

/-- The sort of a part out of its kids'. -/
def kindSort (ds : List Dt) (k : Nat) (nm : ByteArray) (l : List ByteArray) : Except Nat ByteArray :=
  if k = 2 then .ok bInt
  else if k = 5 ∨ k = 6 then (if l.all (fun s => decide (s = bInt)) then .ok bInt else .error 23)
  else if k = 7 then (match fnOf ds nm, l with
    | some (f, t), [s] => if isD ds s && (decide (nm = bTag) || decide (f = s)) && isB ds t then .ok t else .error 23
    | _, _ => .error 23)
  else if k = 8 then (match l with
    | [s, t] => if decide (s = t) && decide (s ≠ bBool) then .ok bBool else .error 23
    | _ => .error 23)
  else if k = 9 then (if l.all (fun s => decide (s = bInt)) then .ok bBool else .error 23)
  else (if l.all (fun s => decide (s = bBool)) then .ok bBool else .error 23)

mutual
def sortS (ds : List Dt) (ss : List Sc) : Tm → Except Nat ByteArray
  | .mk k nm ng _ dg _ ks => match many k with
    | none => .error 23
    | some n => if manyOk n ks.length = false then .error 24
      else if (k = 2 ∨ k = 6) ∧ rightN ng dg = false then .error 23
      else if k = 1 then (match lastS ss nm with
        | none => .error 21
        | some s => if isB ds s then .ok s else .error 23)
      else match sortsS ds ss ks with
        | .ok l => kindSort ds k nm l
        | .error e => .error e
def sortsS (ds : List Dt) (ss : List Sc) : List Tm → Except Nat (List ByteArray)
  | [] => .ok []
  | t :: ts => match sortS ds ss t with
    | .error e => .error e
    | .ok s => match sortsS ds ss ts with
      | .error e => .error e
      | .ok l => .ok (s :: l)
end
end Go.GL
