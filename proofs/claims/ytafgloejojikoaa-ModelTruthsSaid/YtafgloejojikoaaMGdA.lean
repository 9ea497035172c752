/-
  GL, data: terms, sorts' names and datas by value; what the machine's tests tell of them.
-/
import Derived.Test.YtafgloejojikoaaMGlSp
set_option linter.unusedSimpArgs false
set_option linter.unusedVariables false
/-! GL, data: terms, sorts' names and datas by value; what the machine's tests tell of them. -/
namespace Go.GL

/-- A term; df, kf: no spare room behind its digits, its kids. -/
inductive Tm where
  | mk (k : Nat) (nm : ByteArray) (ng : Bool) (df : Bool) (ds : List Nat) (kf : Bool) (ks : List Tm)
  deriving Inhabited

def dig (l : List Nat) : List PV := l.map fun (d : Nat) => .int .u32 d

mutual
def Tm.enc : Tm → PV
  | .mk k nm ng df ds kf ks => .agg [.int .u8 k, .str nm, .bool ng, .lst df (dig ds), .lst kf (encs ks)]
def encs : List Tm → List PV
  | [] => []
  | t :: ts => t.enc :: encs ts
end
theorem encs_map (l : List Tm) : encs l = l.map Tm.enc := by
  induction l with
  | nil => rfl
  | cons t l ih => simp [encs, ih]
@[simp] theorem encs_length (l : List Tm) : (encs l).length = l.length := by simp [encs_map]
@[simp high] theorem encs_get (l : List Tm) (i : Nat) : (encs l)[i]? = (l[i]?).map Tm.enc := by simp [encs_map]
@[simp] theorem dig_length (l : List Nat) : (dig l).length = l.length := by simp [dig]
@[simp high] theorem dig_get (l : List Nat) (i : Nat) : (dig l)[i]? = (l[i]?).map fun (d : Nat) => PV.int .u32 d := by simp [dig]
theorem enc_eq (t : Tm) : t.enc = .agg (cellsOf t.enc) := by cases t; rfl

def Tm.k : Tm → Nat | .mk k .. => k
def Tm.nm : Tm → ByteArray | .mk _ nm .. => nm
def Tm.ng : Tm → Bool | .mk _ _ ng .. => ng
def Tm.df : Tm → Bool | .mk _ _ _ df .. => df
def Tm.ds : Tm → List Nat | .mk _ _ _ _ ds .. => ds
def Tm.kf : Tm → Bool | .mk _ _ _ _ _ kf _ => kf
def Tm.ks : Tm → List Tm | .mk _ _ _ _ _ _ ks => ks
theorem Tm.eta (t : Tm) : t = .mk t.k t.nm t.ng t.df t.ds t.kf t.ks := by cases t; rfl

mutual
def Tm.size : Tm → Nat
  | .mk _ _ _ _ _ _ ks => sizes ks + 1
def sizes : List Tm → Nat
  | [] => 0
  | t :: ts => t.size + sizes ts
end

mutual
/-- All that a term holds. -/
def Tm.bulk : Tm → Nat
  | .mk _ nm _ _ ds _ ks => nm.size + ds.length + bulks ks + 1
def bulks : List Tm → Nat
  | [] => 0
  | t :: ts => t.bulk + bulks ts
end
theorem bulks_mem {l : List Tm} {t : Tm} (h : t ∈ l) : t.bulk ≤ bulks l := by
  induction l with
  | nil => cases h
  | cons x l ih =>
    rcases List.mem_cons.1 h with rfl | h
    · simp [bulks]
    · have := ih h; simp [bulks]; omega
theorem bulk_pos (t : Tm) : 0 < t.bulk := by cases t; simp [Tm.bulk]
theorem bulks_length (l : List Tm) : l.length ≤ bulks l := by
  induction l with
  | nil => simp
  | cons x l ih => have := bulk_pos x; simp [bulks]; omega

mutual
/-- No marks of room. -/
def Tm.er : Tm → Tm
  | .mk k nm ng _ ds _ ks => .mk k nm ng false ds false (ers ks)
def ers : List Tm → List Tm
  | [] => []
  | t :: ts => t.er :: ers ts
end
theorem ers_map (l : List Tm) : ers l = l.map Tm.er := by
  induction l with
  | nil => rfl
  | cons t l ih => simp [ers, ih]

end Go.GL
