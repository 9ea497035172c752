/-
  GL, part R: which values of the machine a value by value stands for. F: cells of memory that never change; φ: where the blocks of the abstract heap lie.
-/
import Derived.Test.YtafgloejojikoaaMGlA
import Derived.Below
set_option linter.unusedSimpArgs false
set_option linter.unusedVariables false
/-! GL, part R: which values of the machine a value by value stands for. F: cells of memory that never change; φ: where the blocks of the abstract heap lie. -/
namespace Go.GL

abbrev FM := Nat → Nat → Option Value
/-- depth, number, length ↦ block, its cells, an element's cells -/
abbrev PM := Nat → Nat → Nat → Option (Nat × Nat × Nat)

def FM.le (F G : FM) : Prop := ∀ b o v, F b o = some v → G b o = some v
def PM.le (φ ψ : PM) : Prop := ∀ d k n x, φ d k n = some x → ψ d k n = some x
theorem FM.le.refl (F : FM) : FM.le F F := fun _ _ _ h => h
theorem FM.le.trans {F G H : FM} (a : FM.le F G) (b : FM.le G H) : FM.le F H := fun _ _ _ h => b _ _ _ (a _ _ _ h)
theorem PM.le.refl (F : PM) : PM.le F F := fun _ _ _ _ h => h
theorem PM.le.trans {F G H : PM} (a : PM.le F G) (b : PM.le G H) : PM.le F H := fun _ _ _ _ h => b _ _ _ _ (a _ _ _ _ h)
def PM.upto (φ : PM) (d : Nat) : PM := fun d' k n => if d' ≤ d then φ d' k n else none
theorem PM.upto_le (φ : PM) (d : Nat) : PM.le (φ.upto d) φ := fun d' k n x h => by
  unfold PM.upto at h
  split at h
  · exact h
  · cases h
theorem PM.upto_mono {φ ψ : PM} (h : PM.le φ ψ) (d : Nat) : PM.le (φ.upto d) (ψ.upto d) := fun d' k n x e => by
  unfold PM.upto at *
  split at e
  · rename_i hd; rw [if_pos hd]; exact h _ _ _ _ e
  · cases e
theorem PM.upto_upto (φ : PM) {d e : Nat} (h : d ≤ e) : (φ.upto e).upto d = φ.upto d := by
  funext d' k n
  unfold PM.upto
  split
  · rename_i hd; rw [if_pos (by omega)]
  · rfl

/-- One cell's value. -/
def one : PV → Bool
  | .agg _ | .tup _ | .junk => false
  | _ => true
def oneV : Value → Bool
  | .agg _ | .tuple _ => false
  | _ => true

inductive RepD (F : FM) : PV → Value → Prop where
  | bool (b : Bool) : RepD F (.bool b) (.bool b)
  | int (k : IntKind) (n : Int) : RepD F (.int k n) (.int k n)
  | str (s : ByteArray) : RepD F (.str s) (.string s)
  | nilIface : RepD F .nilIface .nilIface
  | iface (t : TypeId) (p : PV) (v : Value) (h : RepD F p v) : RepD F (.iface t p) (.iface t v)
  | agg (cs : List PV) (vs : Array Value) (hl : vs.size = cs.length) (h1 : ∀ c ∈ cs, one c = true)
      (h : ∀ (j : Nat) (c : PV) (v : Value), cs[j]? = some c → vs[j]? = some v → RepD F c v) : RepD F (.agg cs) (.agg vs)
  | lst (full : Bool) (xs : List PV) (a : Option Addr) (b o cap sz : Nat) (cv : Nat → Nat → Value) (hc : xs.length ≤ cap) (hf : full = true → cap = xs.length)
      (ha : xs ≠ [] → a = some ⟨b, o, none⟩) (hs : ∀ x ∈ xs, (cellsOf x).length = sz) (h1 : ∀ x ∈ xs, ∀ c ∈ cellsOf x, one c = true)
      (hF : ∀ (i : Nat) (x : PV) (j : Nat) (c : PV), xs[i]? = some x → (cellsOf x)[j]? = some c → F b (o + i * sz + j) = some (cv i j))
      (hR : ∀ (i : Nat) (x : PV) (j : Nat) (c : PV), xs[i]? = some x → (cellsOf x)[j]? = some c → RepD F c (cv i j)) :
      RepD F (.lst full xs) (.slice a xs.length cap)

def isLeaf : PV → Bool
  | .bool _ | .int .. | .str _ | .lst .. | .nilIface | .iface .. => true
  | _ => false

inductive Rep (F : FM) (φ : PM) : PV → Value → Prop where
  | data (p : PV) (v : Value) (hl : isLeaf p = true) (h : RepD F p v) : Rep F φ p v
  | agg (cs : List PV) (vs : Array Value) (hl : vs.size = cs.length) (h1 : ∀ c ∈ cs, one c = true)
      (h : ∀ (j : Nat) (c : PV) (v : Value), cs[j]? = some c → vs[j]? = some v → Rep F φ c v) : Rep F φ (.agg cs) (.agg vs)
  | tup (cs : List PV) (vs : Array Value) (hl : vs.size = cs.length)
      (h : ∀ (j : Nat) (c : PV) (v : Value), cs[j]? = some c → vs[j]? = some v → Rep F φ c v) : Rep F φ (.tup cs) (.tuple vs)
  | own (d k n sz b S cap : Nat) (hp : φ d k n = some (b, S, sz)) (hn : n ≤ cap) (hS : cap * sz ≤ S) :
      Rep F φ (.own d k n sz) (.slice (some ⟨b, 0, none⟩) n cap)
  | ptr (d k off b S : Nat) (hp : φ d k 0 = some (b, S, 0)) : Rep F φ (.ptr d k off) (.pointer (some ⟨b, off, none⟩))
  | eptr (d k n i off b S sz : Nat) (hp : φ d k n = some (b, S, sz)) (hz : 0 < sz) : Rep F φ (.eptr d k n i off) (.pointer (some ⟨b, i * sz + off, none⟩))
  | rptr (cs : List PV) (off b o : Nat) (cv : Nat → Value) (h1 : ∀ c ∈ cs, one c = true) (hF : ∀ (j : Nat) (c : PV), cs[j]? = some c → F b (o + j) = some (cv j))
      (hR : ∀ (j : Nat) (c : PV), cs[j]? = some c → RepD F c (cv j)) : Rep F φ (.rptr cs off) (.pointer (some ⟨b, o + off, none⟩))
  | nilp : Rep F φ .nilp (.pointer none)
  | func (f : Fn) (fs cs : List PV) (vs us : Array Value) (hl : vs.size = fs.length) (hm : us.size = cs.length)
      (h : ∀ (j : Nat) (c : PV) (v : Value), fs[j]? = some c → vs[j]? = some v → Rep F φ c v) (g : ∀ (j : Nat) (c : PV) (v : Value), cs[j]? = some c → us[j]? = some v → Rep F φ c v) :
      Rep F φ (.func f fs cs) (.func f vs us)
  | nilFunc : Rep F φ .nilFunc .nilFunc
  | map (d k b S : Nat) (hp : φ d k 0 = some (b, S, 0)) : Rep F φ (.map d k) (.map (some b))
  | nilm : Rep F φ .nilm (.map none)
  | junk (v : Value) : Rep F φ .junk v

theorem RepD.mono {F G : FM} (hF : FM.le F G) {p : PV} {v : Value} (h : RepD F p v) : RepD G p v := by
  induction h with
  | bool b => exact .bool b
  | int k n => exact .int k n
  | str s => exact .str s
  | nilIface => exact .nilIface
  | iface t p v _ ih => exact .iface t p v ih
  | agg cs vs hl h1 _ ih => exact .agg cs vs hl h1 ih
  | lst full xs a b o cap sz cv hc hf ha hs h1 hF' _ ih => exact .lst full xs a b o cap sz cv hc hf ha hs h1 (fun i x j c h k => hF _ _ _ (hF' i x j c h k)) ih

theorem Rep.mono {F G : FM} {φ ψ : PM} (hF : FM.le F G) (hp : PM.le φ ψ) {p : PV} {v : Value} (h : Rep F φ p v) : Rep G ψ p v := by
  induction h with
  | data p v hl h => exact .data p v hl (h.mono hF)
  | agg cs vs hl h1 _ ih => exact .agg cs vs hl h1 ih
  | tup cs vs hl _ ih => exact .tup cs vs hl ih
  | own d k n sz b S cap h hn hS => exact .own d k n sz b S cap (hp _ _ _ _ h) hn hS
  | ptr d k off b S h => exact .ptr d k off b S (hp _ _ _ _ h)
  | eptr d k n i off b S sz h hz => exact .eptr d k n i off b S sz (hp _ _ _ _ h) hz
  | rptr cs off b o cv h1 hF' hR => exact .rptr cs off b o cv h1 (fun j c h => hF _ _ _ (hF' j c h)) (fun j c h => (hR j c h).mono hF)
  | nilp => exact .nilp
  | func f fs cs vs us hl hm _ _ ih ig => exact .func f fs cs vs us hl hm ih ig
  | nilFunc => exact .nilFunc
  | map d k b S h => exact .map d k b S (hp _ _ _ _ h)
  | nilm => exact .nilm
  | junk v => exact .junk v

theorem Rep.of_data {F : FM} {φ : PM} {p : PV} {v : Value} (h : RepD F p v) : Rep F φ p v := by
  induction h with
  | agg cs vs hl h1 _ ih => exact .agg cs vs hl h1 ih
  | bool b => exact .data _ _ rfl (.bool b)
  | int k n => exact .data _ _ rfl (.int k n)
  | str s => exact .data _ _ rfl (.str s)
  | nilIface => exact .data _ _ rfl .nilIface
  | iface t p v h => exact .data _ _ rfl (.iface t p v h)
  | lst full xs a b o cap sz cv hc hf ha hs h1 hF' hR => exact .data _ _ rfl (.lst full xs a b o cap sz cv hc hf ha hs h1 hF' hR)

theorem isDataL_iff (l : List PV) : isDataL l = true ↔ ∀ c ∈ l, isData c = true := by
  induction l with
  | nil => simp [isDataL]
  | cons p ps ih => simp [isDataL, ih]

theorem withinL_iff (d : Nat) (l : List PV) : withinL d l = true ↔ ∀ c ∈ l, within d c = true := by
  induction l with
  | nil => simp [withinL]
  | cons p ps ih => simp [withinL, ih]

theorem Rep.data_of {F : FM} {φ : PM} {p : PV} {v : Value} (h : Rep F φ p v) (hd : isData p = true) : RepD F p v := by
  induction h with
  | data p v hl h => exact h
  | agg cs vs hl h1 _ ih =>
    simp only [isData, isDataL_iff] at hd
    exact .agg cs vs hl h1 fun j c v hc hv => ih j c v hc hv (hd c (List.mem_of_getElem? hc))
  | _ => simp [isData] at hd

/-- Kept to depth d. -/
theorem Rep.upto {F : FM} {φ : PM} {p : PV} {v : Value} (h : Rep F φ p v) {d : Nat} (hd : within d p = true) : Rep F (φ.upto d) p v := by
  induction h with
  | data p v hl h => exact .data p v hl h
  | agg cs vs hl h1 _ ih =>
    simp only [within, withinL_iff] at hd
    exact .agg cs vs hl h1 fun j c v hc hv => ih j c v hc hv (hd c (List.mem_of_getElem? hc))
  | tup cs vs hl _ ih =>
    simp only [within, withinL_iff] at hd
    exact .tup cs vs hl fun j c v hc hv => ih j c v hc hv (hd c (List.mem_of_getElem? hc))
  | own d' k n sz b S cap h hn hS =>
    simp only [within, decide_eq_true_eq] at hd
    exact .own d' k n sz b S cap (by simp [PM.upto, hd, h]) hn hS
  | ptr d' k off b S h =>
    simp only [within, decide_eq_true_eq] at hd
    exact .ptr d' k off b S (by simp [PM.upto, hd, h])
  | eptr d' k n i off b S sz h hz =>
    simp only [within, decide_eq_true_eq] at hd
    exact .eptr d' k n i off b S sz (by simp [PM.upto, hd, h]) hz
  | rptr cs off b o cv h1 hF' hR => exact .rptr cs off b o cv h1 hF' hR
  | nilp => exact .nilp
  | func f fs cs vs us hl hm _ _ ih ig =>
    simp only [within, Bool.and_eq_true, withinL_iff] at hd
    exact .func f fs cs vs us hl hm (fun j c v hc hv => ih j c v hc hv (hd.1 c (List.mem_of_getElem? hc))) (fun j c v hc hv => ig j c v hc hv (hd.2 c (List.mem_of_getElem? hc)))
  | nilFunc => exact .nilFunc
  | map d' k b S h =>
    simp only [within, decide_eq_true_eq] at hd
    exact .map d' k b S (by simp [PM.upto, hd, h])
  | nilm => exact .nilm
  | junk v => simp [within] at hd

theorem Rep.one_ {F : FM} {φ : PM} {p : PV} {v : Value} (h : Rep F φ p v) (h1 : one p = true) : oneV v = true := by
  cases h <;> first | rfl | (simp [one] at h1; done) | skip
  rename_i hl h
  cases h <;> first | rfl | simp [isLeaf] at hl

/-- A value's cells. -/
theorem Rep.cells {F : FM} {φ : PM} {p : PV} {v : Value} (h : Rep F φ p v) (hj : p ≠ .junk) (ht : ∀ l, p ≠ .tup l) :
    v.cells.size = (cellsOf p).length ∧ ∀ (j : Nat) (c : PV), (cellsOf p)[j]? = some c → one c = true ∧ ∃ u, v.cells[j]? = some u ∧ Rep F φ c u := by
  have lone : ∀ {p : PV} {v : Value}, Rep F φ p v → one p = true → v.cells.size = (cellsOf p).length ∧ ∀ (j : Nat) (c : PV), (cellsOf p)[j]? = some c → one c = true ∧ ∃ u, v.cells[j]? = some u ∧ Rep F φ c u := by
    intro p v h h1
    have hc : cellsOf p = [p] := by cases p <;> first | rfl | simp [one] at h1
    have hv : v.cells = #[v] := by have := h.one_ h1; cases v <;> first | rfl | simp [oneV] at this
    rw [hc, hv]
    refine ⟨rfl, fun j c hj => ?_⟩
    cases j with
    | zero => simp at hj; subst hj; exact ⟨h1, v, by simp, h⟩
    | succ j => simp at hj
  cases h with
  | agg cs vs hl h1 h =>
    refine ⟨hl, fun j c hc => ⟨h1 c (List.mem_of_getElem? hc), ?_⟩⟩
    have hlt : j < vs.size := by
      have := (List.getElem?_eq_some_iff.1 hc).1
      simp only [cellsOf] at this
      omega
    exact ⟨vs[j], by simp [Value.cells, hlt], h j c _ hc (by simp [hlt])⟩
  | tup cs vs hl h => exact absurd rfl (ht _)
  | junk v => exact absurd rfl hj
  | data p v hl h => exact lone (.data p v hl h) (by cases p <;> first | rfl | simp [isLeaf] at hl)
  | own d k n sz b S cap a e c => exact lone (.own d k n sz b S cap a e c) rfl
  | ptr d k off b S a => exact lone (.ptr d k off b S a) rfl
  | eptr d k n i off b S sz a e => exact lone (.eptr d k n i off b S sz a e) rfl
  | rptr cs off b o cv a e c => exact lone (.rptr cs off b o cv a e c) rfl
  | nilp => exact lone .nilp rfl
  | func f fs cs vs us a e c d => exact lone (.func f fs cs vs us a e c d) rfl
  | nilFunc => exact lone .nilFunc rfl
  | map d k b S a => exact lone (.map d k b S a) rfl
  | nilm => exact lone .nilm rfl

end Go.GL
