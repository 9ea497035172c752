/-
  GL, data: values, bounds; what terms come to.
  GL, data: what terms come to is of some sort; how great it is.
  GL, data: parts counted, as the laws' guards count them.
  GL, data: numbers that are right; the law of truths and numbers.
-/
import Derived.Test.YtafgloejojikoaaMGl39
set_option linter.unusedSimpArgs false
set_option linter.unusedVariables false
/-! GL, data: values, bounds; what terms come to. -/
namespace Go.GL

/-- A value; df, ff: no spare room behind its digits, its fields. -/
inductive Vl where
  | mk (k : Nat) (ng : Bool) (df : Bool) (ds : List Nat) (tr : Bool) (nm : ByteArray) (ff : Bool) (fs : List Vl)
  deriving Inhabited
mutual
def Vl.enc : Vl → PV
  | .mk k ng df ds tr nm ff fs => .agg [.int .u8 k, .bool ng, .lst df (dig ds), .bool tr, .str nm, .lst ff (encVs fs)]
def encVs : List Vl → List PV
  | [] => []
  | t :: ts => t.enc :: encVs ts
end
theorem encVs_map (l : List Vl) : encVs l = l.map Vl.enc := by
  induction l with
  | nil => rfl
  | cons t l ih => simp [encVs, ih]
@[simp] theorem encVs_length (l : List Vl) : (encVs l).length = l.length := by simp [encVs_map]
@[simp high] theorem encVs_get (l : List Vl) (i : Nat) : (encVs l)[i]? = (l[i]?).map Vl.enc := by simp [encVs_map]
def Vl.k : Vl → Nat | .mk k .. => k
def Vl.ng : Vl → Bool | .mk _ ng .. => ng
def Vl.df : Vl → Bool | .mk _ _ df .. => df
def Vl.ds : Vl → List Nat | .mk _ _ _ ds .. => ds
def Vl.tr : Vl → Bool | .mk _ _ _ _ tr .. => tr
def Vl.nm : Vl → ByteArray | .mk _ _ _ _ _ nm .. => nm
def Vl.ff : Vl → Bool | .mk _ _ _ _ _ _ ff _ => ff
def Vl.fs : Vl → List Vl | .mk _ _ _ _ _ _ _ fs => fs

mutual
def Vl.size : Vl → Nat
  | .mk _ _ _ _ _ _ _ fs => sizeVs fs + 1
def sizeVs : List Vl → Nat
  | [] => 0
  | t :: ts => t.size + sizeVs ts
end
theorem sizeVs_mem {l : List Vl} {t : Vl} (h : t ∈ l) : t.size ≤ sizeVs l := by
  induction l with
  | nil => cases h
  | cons x l ih =>
    rcases List.mem_cons.1 h with rfl | h
    · simp [sizeVs]
    · have := ih h; simp [sizeVs]; omega

mutual
/-- Digits that numbers hold, at most so many; rows not too long. -/
def okV (M : Nat) : Vl → Prop
  | .mk _ _ _ ds _ _ _ fs => ds.length ≤ M ∧ (∀ d ∈ ds, d ≤ 4294967295) ∧ fs.length < 1000000000 ∧ okVs M fs
def okVs (M : Nat) : List Vl → Prop
  | [] => True
  | t :: ts => okV M t ∧ okVs M ts
end
theorem okVs_mem {M : Nat} {l : List Vl} (h : okVs M l) {t : Vl} (ht : t ∈ l) : okV M t := by
  induction l with
  | nil => cases ht
  | cons x l ih =>
    rcases List.mem_cons.1 ht with rfl | ht
    · exact h.1
    · exact ih h.2 ht
theorem okVs_of {M : Nat} {l : List Vl} (h : ∀ t ∈ l, okV M t) : okVs M l := by
  induction l with
  | nil => trivial
  | cons x l ih => exact ⟨h x (by simp), ih fun t ht => h t (by simp [ht])⟩
mutual
theorem okV.mono {M N : Nat} (h : M ≤ N) : ∀ {v : Vl}, okV M v → okV N v
  | .mk _ _ _ ds _ _ _ fs, ⟨h1, h2, h3, h4⟩ => ⟨Nat.le_trans h1 h, h2, h3, okVs.mono h h4⟩
theorem okVs.mono {M N : Nat} (h : M ≤ N) : ∀ {l : List Vl}, okVs M l → okVs N l
  | [], _ => trivial
  | _ :: _, h1 => ⟨okV.mono h h1.1, okVs.mono h h1.2⟩
end

/-! ### Data stay as they are -/
mutual
theorem frz_data (S : Heap) (d : Nat) (ro : Bool) : ∀ p : PV, isData p = true → frz S d ro p = some p
  | .bool _, _ | .int _ _, _ | .str _, _ | .lst _ _, _ | .nilIface, _ | .iface _ _, _ => rfl
  | .agg cs, h => by simp only [isData] at h; simp only [frz, frzL_data S d ro cs h, Option.map_some]
  | .tup _, h | .own _ _ _ _, h | .ptr _ _ _, h | .eptr _ _ _ _ _, h | .rptr _ _, h | .nilp, h | .func _ _ _, h | .nilFunc, h | .map _ _, h | .nilm, h | .junk, h => by simp [isData] at h
theorem frzL_data (S : Heap) (d : Nat) (ro : Bool) : ∀ l : List PV, isDataL l = true → frzL S d ro l = some l
  | [], _ => rfl
  | p :: ps, h => by
    simp only [isDataL, Bool.and_eq_true] at h
    simp only [frzL, frz_data S d ro p h.1, frzL_data S d ro ps h.2, Option.bind_some, Option.map_some]
end
mutual
theorem shut_data (d : Nat) : ∀ (p : PV) (L : List Blk), isData p = true → shut d p L = L
  | .bool _, _, _ | .int _ _, _, _ | .str _, _, _ | .lst _ _, _, _ | .nilIface, _, _ | .iface _ _, _, _ => rfl
  | .agg cs, L, h => by simp only [isData] at h; simp only [shut, shutL_data d cs L h]
  | .tup _, _, h | .own _ _ _ _, _, h | .ptr _ _ _, _, h | .eptr _ _ _ _ _, _, h | .rptr _ _, _, h | .nilp, _, h | .func _ _ _, _, h | .nilFunc, _, h | .map _ _, _, h | .nilm, _, h | .junk, _, h => by simp [isData] at h
theorem shutL_data (d : Nat) : ∀ (l : List PV) (L : List Blk), isDataL l = true → shutL d l L = L
  | [], _, _ => rfl
  | p :: ps, L, h => by
    simp only [isDataL, Bool.and_eq_true] at h
    simp only [shutL, shut_data d p L h.1, shutL_data d ps L h.2]
end
mutual
theorem there_data (S : Heap) : ∀ p : PV, isData p = true → there S p = true
  | .bool _, _ | .int _ _, _ | .str _, _ | .lst _ _, _ | .nilIface, _ | .iface _ _, _ => rfl
  | .agg cs, h => by simp only [isData] at h; simp only [there, thereL_data S cs h]
  | .tup _, h | .own _ _ _ _, h | .ptr _ _ _, h | .eptr _ _ _ _ _, h | .rptr _ _, h | .nilp, h | .func _ _ _, h | .nilFunc, h | .map _ _, h | .nilm, h | .junk, h => by simp [isData] at h
theorem thereL_data (S : Heap) : ∀ l : List PV, isDataL l = true → thereL S l = true
  | [], _ => rfl
  | p :: ps, h => by
    simp only [isDataL, Bool.and_eq_true] at h
    simp only [thereL, there_data S p h.1, thereL_data S ps h.2, Bool.and_self]
end

/-! ### Constructors -/
def conAt : List Dt → ByteArray → Nat → Option (Nat × Nat)
  | [], _, _ => none
  | d :: ds, nm, i => match d.cs.findIdx? fun c => decide (c.nm = nm) with
    | some k => some (i, k)
    | none => conAt ds nm (i + 1)
theorem conAt_get : ∀ (ds : List Dt) (nm : ByteArray) (i d c : Nat), conAt ds nm i = some (d, c) → ∃ D C, i ≤ d ∧ ds[d - i]? = some D ∧ D.cs[c]? = some C ∧ C.nm = nm ∧ findC ds nm = some (D, C)
  | [], nm, i, d, c, h => by cases h
  | x :: ds, nm, i, d, c, h => by
    unfold conAt at h
    cases hf : x.cs.findIdx? fun c => decide (c.nm = nm) with
    | some k =>
      rw [hf] at h
      simp only [Option.some.injEq, Prod.mk.injEq] at h
      obtain ⟨rfl, rfl⟩ := h
      obtain ⟨hk, hp, hmin⟩ := List.findIdx?_eq_some_iff_getElem.1 hf
      refine ⟨x, x.cs[k], Nat.le_refl _, by simp, List.getElem?_eq_getElem hk, by simpa using hp, ?_⟩
      unfold findC
      have : x.cs.find? (fun c => decide (c.nm = nm)) = some x.cs[k] := by
        rw [List.find?_eq_some_iff_getElem]
        exact ⟨hp, k, hk, rfl, fun j hj => by have := hmin j hj; simpa using this⟩
      rw [this]
    | none =>
      rw [hf] at h
      obtain ⟨D, C, h1, h2, h3, h4, h5⟩ := conAt_get ds nm (i + 1) d c h
      refine ⟨D, C, by omega, by rw [show d - i = (d - (i + 1)) + 1 by omega]; simpa using h2, h3, h4, ?_⟩
      unfold findC
      have : x.cs.find? (fun c => decide (c.nm = nm)) = none := by
        rw [List.find?_eq_none]
        intro y hy
        rw [List.findIdx?_eq_none_iff] at hf
        simpa using hf y hy
      rw [this]
      exact h5
theorem conAt_none : ∀ (ds : List Dt) (nm : ByteArray) (i : Nat), conAt ds nm i = none → findC ds nm = none
  | [], _, _, _ => rfl
  | x :: ds, nm, i, h => by
    unfold conAt at h
    cases hf : x.cs.findIdx? fun c => decide (c.nm = nm) with
    | some k => rw [hf] at h; cases h
    | none =>
      rw [hf] at h
      unfold findC
      have : x.cs.find? (fun c => decide (c.nm = nm)) = none := by
        rw [List.find?_eq_none]
        intro y hy
        rw [List.findIdx?_eq_none_iff] at hf
        simpa using hf y hy
      rw [this]
      exact conAt_none ds nm (i + 1) h

/-! ### Values of sorts -/
def noneV : Vl → Bool
  | .mk k ng _ ds tr nm _ fs => (decide (k = 1) || (decide (ds = []) && !ng)) && (decide (k = 2) || !tr) && (decide (k = 3) || (decide (nm = bNil) && decide (fs.length = 0)))
mutual
def isV (ds : List Dt) : ByteArray → Vl → Bool
  | s, .mk k ng df dg tr nm ff fs =>
    if noneV (.mk k ng df dg tr nm ff fs) = false then false
    else if k = 1 then decide (s = bInt) && rightN ng dg
    else if k = 2 then decide (s = bBool)
    else if k = 3 then (if isD ds s = false then false else if nm = bNil then decide (fs.length = 0) else match findC ds nm with
      | none => false
      | some (D, C) => if D.nm ≠ s then false else if C.fs.length ≠ fs.length then false else isVs ds C.fs fs)
    else false
def isVs (ds : List Dt) : List ByteArray → List Vl → Bool
  | s :: ss, v :: vs => isV ds s v && isVs ds ss vs
  | _, _ => true
end
theorem isVs_iff {ds : List Dt} : ∀ {ss : List ByteArray} {vs : List Vl}, ss.length = vs.length → (isVs ds ss vs = true ↔ ∀ (i : Nat) s v, ss[i]? = some s → vs[i]? = some v → isV ds s v = true)
  | [], [], _ => by simp [isVs]
  | [], _ :: _, h => by simp at h
  | _ :: _, [], h => by simp at h
  | s :: ss, v :: vs, h => by
    simp only [isVs, Bool.and_eq_true]
    rw [isVs_iff (ss := ss) (vs := vs) (by simpa using h)]
    constructor
    · rintro ⟨h1, h2⟩ i s' v' hs hv
      cases i with
      | zero => simp at hs hv; subst hs hv; exact h1
      | succ i => exact h2 i s' v' (by simpa using hs) (by simpa using hv)
    · intro hh
      exact ⟨hh 0 s v rfl rfl, fun i s' v' hs hv => hh (i + 1) s' v' (by simpa using hs) (by simpa using hv)⟩
def someV (ds : List Dt) (v : Vl) : Bool := isV ds bInt v || isV ds bBool v || ds.any fun d => isV ds d.nm v

/-! ### Copies, sameness -/
def copV : Vl → Vl
  | .mk k ng _ ds tr nm _ fs => .mk k ng (decide (ds = [])) ds tr nm (decide (fs = [])) (copVs fs)
where copVs : List Vl → List Vl
  | [] => []
  | v :: vs => copV v :: copVs vs
theorem copVs_map (l : List Vl) : copV.copVs l = l.map copV := by
  induction l with
  | nil => rfl
  | cons t l ih => simp [copV.copVs, ih]
mutual
def sameV : Vl → Vl → Bool
  | .mk k ng _ ds tr nm _ fs, .mk k2 ng2 _ ds2 tr2 nm2 _ fs2 => decide (k = k2) && (decide (tr = tr2) && (decide (nm = nm2) && (decide (ng = ng2) && (decide (ds = ds2) && sameVs fs fs2))))
def sameVs : List Vl → List Vl → Bool
  | [], [] => true
  | x :: xs, y :: ys => sameV x y && sameVs xs ys
  | _, _ => false
end
theorem sameVs_length {a b : List Vl} (h : sameVs a b = true) : a.length = b.length := by
  induction a generalizing b with
  | nil => cases b with
    | nil => rfl
    | cons y b => simp [sameVs] at h
  | cons x a ih => cases b with
    | nil => simp [sameVs] at h
    | cons y b => simp [sameVs] at h; simp [ih h.2]
theorem sameVs_iff {a b : List Vl} (h : a.length = b.length) : sameVs a b = true ↔ ∀ (i : Nat) (x y : Vl), a[i]? = some x → b[i]? = some y → sameV x y = true := by
  induction a generalizing b with
  | nil => cases b with
    | nil => simp [sameVs]
    | cons y b => simp at h
  | cons x a ih => cases b with
    | nil => simp at h
    | cons y b =>
      simp only [sameVs, Bool.and_eq_true]
      rw [ih (by simpa using h)]
      constructor
      · rintro ⟨h1, h2⟩ i x' y' hx hy
        cases i with
        | zero => simp at hx hy; subst hx hy; exact h1
        | succ i => exact h2 i x' y' (by simpa using hx) (by simpa using hy)
      · intro hh
        exact ⟨hh 0 x y rfl rfl, fun i x' y' hx hy => hh (i + 1) x' y' (by simpa using hx) (by simpa using hy)⟩
mutual
theorem sameV_refl : ∀ v : Vl, sameV v v = true
  | .mk k ng _ ds tr nm _ fs => by simp [sameV, sameVs_refl fs]
theorem sameVs_refl : ∀ l : List Vl, sameVs l l = true
  | [] => rfl
  | v :: l => by simp [sameVs, sameV_refl v, sameVs_refl l]
end

/-! ### What terms come to -/
def numV (z : Int) : Vl := .mk 1 (decide (z < 0)) (decide (digsOf z.natAbs = [])) (digsOf z.natAbs) false bNil true []
def truthV (b : Bool) : Vl := .mk 2 false true [] b bNil true []
def zeroVl (k : Nat) : Vl := .mk k false true [] false bNil true []
def Vl.val (v : Vl) : Int := valI v.ng v.ds
def allV (k : Nat) (l : List Vl) : Bool := l.all fun v => decide (v.k = k)

structure Bd where
  nm : ByteArray
  v : Vl
def Bd.enc (b : Bd) : PV := .agg (.str b.nm :: cellsOf b.v.enc)
def encB (l : List Bd) : List PV := l.map Bd.enc
@[simp high] theorem encB_get (l : List Bd) (i : Nat) : (encB l)[i]? = (l[i]?).map Bd.enc := by simp [encB]
@[simp] theorem encB_len (l : List Bd) : (encB l).length = l.length := by simp [encB]
/-- The last value of a name. -/
def lastB (bs : List Bd) (nm : ByteArray) : Option Vl := (bs.reverse.find? fun b => decide (b.nm = nm)).map (·.v)

/-- What functions of other data are. -/
def zeroS (s : ByteArray) : Vl := if s = bInt then zeroVl 1 else if s = bBool then zeroVl 2 else zeroVl 3
/-- A function C.i: the constructor's place, and i. -/
def fieldS (ds : List Dt) (nm : ByteArray) : Option (Nat × Nat × Nat) :=
  if dotted nm = false then none else match conAt ds (nm.extract 0 (nm.size - 2)) 0 with
    | none => none
    | some (d, c) => match (ds[d]?).bind fun D => D.cs[c]? with
      | some C => if byteAt nm (nm.size - 1) - 48 < C.fs.length then some (d, c, byteAt nm (nm.size - 1) - 48) else none
      | none => none
def dataNm (ds : List Dt) (d : Nat) : ByteArray := ((ds[d]?).map Dt.nm).getD bNil
def applyS (ds : List Dt) (nm : ByteArray) (v : Vl) : Option Vl :=
  if v.k ≠ 3 then none
  else if nm = bTag then (if v.nm = bNil then some (numV (-1)) else match conAt ds v.nm 0 with
    | some (_, c) => some (numV c)
    | none => none)
  else match fieldS ds nm with
    | none => none
    | some (d, c, i) =>
      if v.nm ≠ bNil ∧ dataNm ds ((conAt ds v.nm 0).getD (0, 0)).1 ≠ dataNm ds d then none
      else if v.nm ≠ bNil ∧ (conAt ds v.nm 0).getD (0, 0) = (d, c) then v.fs[i]?
      else match ((ds[d]?).bind fun D => D.cs[c]?).bind fun C => C.fs[i]? with
        | some s => some (zeroS s)
        | none => none
def sumV (l : List Vl) : Int := (l.map Vl.val).sum
def kindEval (ds : List Dt) (k : Nat) (nm : ByteArray) (ng : Bool) (dg : List Nat) (l : List Vl) : Option Vl :=
  if k = 2 then (if rightN ng dg then some (numV (valI ng dg)) else none)
  else if k = 3 then some (truthV true)
  else if k = 4 then some (truthV false)
  else if k = 5 then (if allV 1 l then some (numV (sumV l)) else none)
  else if k = 6 then (if allV 1 l && rightN ng dg then some (numV (sumV l * valI ng dg)) else none)
  else if k = 7 then (match l with
    | [v] => applyS ds nm v
    | _ => none)
  else if k = 8 then (match l with
    | [a, b] => if allV 1 l || allV 3 l then some (truthV (sameV a b)) else none
    | _ => none)
  else if k = 9 then (match l with
    | [a, b] => if allV 1 l then some (truthV (decide (a.val ≤ b.val))) else none
    | _ => none)
  else if k = 10 then (match l with
    | [a] => if allV 2 l then some (truthV (!a.tr)) else none
    | _ => none)
  else if k = 13 then (match l with
    | [a, b] => if allV 2 l then some (truthV (a.tr == b.tr)) else none
    | _ => none)
  else if k = 11 then (if allV 2 l then some (truthV (l.all fun v => v.tr)) else none)
  else (if allV 2 l then some (truthV (l.any fun v => v.tr)) else none)
mutual
def evalS (ds : List Dt) (bs : List Bd) : Tm → Except Nat Vl
  | .mk k nm ng _ dg _ ks =>
    if k = 1 ∧ ks.length = 0 then (match lastB bs nm with
      | none => .error 21
      | some v => if someV ds v then .ok (copV v) else .error 23)
    else match many k with
      | none => .error 23
      | some m => if manyOk m ks.length = false then .error 24 else match evalsS ds bs ks with
        | .error e => .error e
        | .ok l => match kindEval ds k nm ng dg l with
          | some v => .ok v
          | none => .error 23
def evalsS (ds : List Dt) (bs : List Bd) : List Tm → Except Nat (List Vl)
  | [] => .ok []
  | t :: ts => match evalS ds bs t with
    | .error e => .error e
    | .ok v => match evalsS ds bs ts with
      | .error e => .error e
      | .ok l => .ok (v :: l)
end
end Go.GL

/-! GL, data: what terms come to is of some sort; how great it is. -/
namespace Go.GL

/-- What 'applied' tells. -/
def applyR (ds : List Dt) (nm : ByteArray) (v : Vl) : Vl × Bool :=
  if v.k ≠ 3 then (v, false)
  else if nm = bTag then (if v.nm = bNil then (numV (-1), true) else match conAt ds v.nm 0 with
    | some (_, c) => (numV c, true)
    | none => (numV 0, false))
  else match fieldS ds nm with
    | none => (v, false)
    | some (d, c, i) =>
      if v.nm ≠ bNil ∧ dataNm ds ((conAt ds v.nm 0).getD (0, 0)).1 ≠ dataNm ds d then (v, false)
      else if v.nm ≠ bNil ∧ (conAt ds v.nm 0).getD (0, 0) = (d, c) then ((v.fs[i]?).getD v, true)
      else match ((ds[d]?).bind fun D => D.cs[c]?).bind fun C => C.fs[i]? with
        | some s => (zeroS s, true)
        | none => (v, false)

/-- A constructor's value has the constructor's fields. -/
def formed (ds : List Dt) (v : Vl) : Prop := v.nm ≠ bNil → ∃ d c D C, conAt ds v.nm 0 = some (d, c) ∧ ds[d]? = some D ∧ D.cs[c]? = some C ∧ C.fs.length = v.fs.length ∧ isVs ds C.fs v.fs = true

theorem fieldS_some {ds : List Dt} {nm : ByteArray} {d c i : Nat} (h : fieldS ds nm = some (d, c, i)) : ∃ D C s, ds[d]? = some D ∧ D.cs[c]? = some C ∧ C.fs[i]? = some s := by
  unfold fieldS at h
  split at h
  · cases h
  · split at h
    · cases h
    · rename_i d0 c0 hc
      obtain ⟨D, C, _, hD, hC, _, _⟩ := conAt_get _ _ _ _ _ hc
      simp only [Nat.sub_zero] at hD
      simp only [hD, Option.bind_some, hC] at h
      split at h
      · rename_i hlt
        simp only [Option.some.injEq, Prod.mk.injEq] at h
        obtain ⟨rfl, rfl, rfl⟩ := h
        exact ⟨D, C, _, hD, hC, List.getElem?_eq_getElem hlt⟩
      · cases h

theorem bNil_ne_bInt : bNil ≠ bInt := by decide
theorem isV_int {ds : List Dt} {s : ByteArray} {v : Vl} (h : isV ds s v = true) (hk : v.k = 1) : s = bInt ∧ rightN v.ng v.ds = true ∧ v.tr = false ∧ v.nm = bNil ∧ v.fs = [] := by
  obtain ⟨k, ng, df, dg, tr, nm, ff, fs⟩ := v
  simp only [Vl.k, Vl.ng, Vl.ds, Vl.tr, Vl.nm, Vl.fs] at hk ⊢
  subst hk
  rw [isV] at h
  simp [noneV] at h
  exact ⟨h.2.1, h.2.2, h.1.1, h.1.2.1, h.1.2.2⟩
theorem isV_bool {ds : List Dt} {s : ByteArray} {v : Vl} (h : isV ds s v = true) (hk : v.k = 2) : s = bBool ∧ v.ng = false ∧ v.ds = [] ∧ v.nm = bNil ∧ v.fs = [] := by
  obtain ⟨k, ng, df, dg, tr, nm, ff, fs⟩ := v
  simp only [Vl.k, Vl.ng, Vl.ds, Vl.tr, Vl.nm, Vl.fs] at hk ⊢
  subst hk
  rw [isV] at h
  simp [noneV] at h
  exact ⟨h.2, h.1.2.1, h.1.1, h.1.2.2.1, h.1.2.2.2⟩
theorem isV_kinds {ds : List Dt} {s : ByteArray} {v : Vl} (h : isV ds s v = true) : v.k = 1 ∨ v.k = 2 ∨ v.k = 3 := by
  obtain ⟨k, ng, df, dg, tr, nm, ff, fs⟩ := v
  simp only [Vl.k]
  rw [isV] at h
  split at h
  · cases h
  · split at h
    · exact .inl ‹_›
    · split at h
      · exact .inr (.inl ‹_›)
      · split at h
        · exact .inr (.inr ‹_›)
        · cases h
theorem isV_data {ds : List Dt} {s : ByteArray} {v : Vl} (h : isV ds s v = true) (hk : v.k = 3) : isD ds s = true ∧ v.ng = false ∧ v.ds = [] ∧ v.tr = false ∧ (v.nm = bNil → v.fs = []) ∧ formed ds v := by
  obtain ⟨k, ng, df, dg, tr, nm, ff, fs⟩ := v
  simp only [Vl.k, Vl.ng, Vl.ds, Vl.tr, Vl.nm, Vl.fs, formed] at hk ⊢
  subst hk
  rw [isV] at h
  split at h
  · cases h
  rename_i hn
  simp [noneV] at hn
  rw [if_neg (by decide), if_neg (by decide), if_pos rfl] at h
  split at h
  · cases h
  rename_i hd
  have hd' : isD ds s = true := by simpa using hd
  refine ⟨hd', hn.2.1, hn.1, hn.2.2, ?_, ?_⟩
  · intro hnm
    rw [if_pos hnm] at h
    simpa using h
  · intro hnm
    rw [if_neg hnm] at h
    cases hf : findC ds nm with
    | none => rw [hf] at h; cases h
    | some x =>
      obtain ⟨D, C⟩ := x
      rw [hf] at h
      simp only [] at h
      split at h
      · cases h
      · split at h
        · cases h
        · rename_i hl
          cases hc : conAt ds nm 0 with
          | none => rw [conAt_none _ _ _ hc] at hf; cases hf
          | some y =>
            obtain ⟨d, c⟩ := y
            obtain ⟨D', C', _, h1, h2, _, h4⟩ := conAt_get _ _ _ _ _ hc
            rw [hf] at h4
            simp only [Option.some.injEq, Prod.mk.injEq] at h4
            obtain ⟨rfl, rfl⟩ := h4
            simp only [Nat.sub_zero] at h1
            exact ⟨d, c, D, C, rfl, h1, h2, by simpa using hl, h⟩
theorem isV_some {ds : List Dt} {s : ByteArray} {v : Vl} (h : isV ds s v = true) : someV ds v = true := by
  unfold someV
  rcases isV_kinds h with hk | hk | hk
  · rw [(isV_int h hk).1] at h; simp [h]
  · rw [(isV_bool h hk).1] at h; simp [h]
  · have h1 := (isV_data h hk).1
    unfold isD at h1
    simp only [Bool.and_eq_true, List.any_eq_true, decide_eq_true_eq] at h1
    obtain ⟨_, d, hd, hdn⟩ := h1
    have : ds.any (fun d => isV ds d.nm v) = true := by
      rw [List.any_eq_true]
      exact ⟨d, hd, by rw [hdn]; exact h⟩
    simp [this]
theorem someV_iff {ds : List Dt} {v : Vl} : someV ds v = true ↔ ∃ s, isV ds s v = true := by
  constructor
  · intro h
    unfold someV at h
    simp only [Bool.or_eq_true] at h
    rcases h with (h | h) | h
    · exact ⟨_, h⟩
    · exact ⟨_, h⟩
    · obtain ⟨d, _, hd⟩ := List.any_eq_true.1 h
      exact ⟨_, hd⟩
  · rintro ⟨s, h⟩; exact isV_some h
theorem some_formed {ds : List Dt} {v : Vl} (h : someV ds v = true) (hk : v.k = 3) : formed ds v := by
  obtain ⟨s, h⟩ := someV_iff.1 h
  exact (isV_data h hk).2.2.2.2.2

mutual
theorem isV_cop (ds : List Dt) : ∀ (v : Vl) (s : ByteArray), isV ds s (copV v) = isV ds s v
  | .mk k ng df dg tr nm ff fs, s => by
    have hl : (copV.copVs fs).length = fs.length := by rw [copVs_map]; simp
    have hn : noneV (.mk k ng (decide (dg = [])) dg tr nm (decide (fs = [])) (copV.copVs fs)) = noneV (.mk k ng df dg tr nm ff fs) := by simp [noneV, hl]
    rw [copV, isV, isV, hn, hl]
    simp only [isVs_cop ds fs]
theorem isVs_cop (ds : List Dt) : ∀ (l : List Vl) (ss : List ByteArray), isVs ds ss (copV.copVs l) = isVs ds ss l
  | [], [] => rfl
  | [], _ :: _ => rfl
  | _ :: _, [] => rfl
  | v :: l, s :: ss => by
    rw [copV.copVs, isVs, isVs, isV_cop ds v s, isVs_cop ds l ss]
end
theorem someV_cop (ds : List Dt) (v : Vl) : someV ds (copV v) = someV ds v := by
  unfold someV
  rw [isV_cop, isV_cop]
  congr 1
  congr 1
  funext d
  exact isV_cop ds v d.nm
mutual
theorem okV_cop {M : Nat} : ∀ {v : Vl}, okV M v → okV M (copV v)
  | .mk k ng df dg tr nm ff fs, ⟨h1, h2, h3, h4⟩ => by
    have hl : (copV.copVs fs).length = fs.length := by rw [copVs_map]; simp
    rw [copV]
    exact ⟨h1, h2, by rw [hl]; exact h3, okVs_cop h4⟩
theorem okVs_cop {M : Nat} : ∀ {l : List Vl}, okVs M l → okVs M (copV.copVs l)
  | [], _ => trivial
  | v :: l, h => ⟨okV_cop h.1, okVs_cop h.2⟩
end

/-! ### Numbers -/
theorem rightN_digs (z : Int) : rightN (decide (z < 0)) (digsOf z.natAbs) = true := by
  unfold rightN rightD
  have h9 : B9 = 1000000000 := rfl
  simp only [Bool.and_eq_true, List.all_eq_true, decide_eq_true_eq, Bool.or_eq_true, Bool.not_eq_true', decide_eq_false_iff_not]
  refine ⟨⟨fun d hd => by have := digsOf_lt _ d hd; omega, ?_⟩, ?_⟩
  · cases hl : (digsOf z.natAbs).getLast? with
    | none => rfl
    | some d =>
      have hne : digsOf z.natAbs ≠ [] := by rintro h; rw [h] at hl; cases hl
      rw [List.getLast?_eq_some_getLast hne] at hl
      injection hl with hl
      have := digsOf_last _ hne
      rw [hl] at this
      simpa using this
  · by_cases hz : z < 0
    · right
      intro h
      have := digsOf_nil.1 (List.eq_nil_of_length_eq_zero h)
      omega
    · left; exact hz
theorem numV_some (ds : List Dt) (z : Int) : someV ds (numV z) = true := by
  apply isV_some (s := bInt)
  unfold numV
  rw [isV]
  simp [noneV, rightN_digs]
theorem truthV_some (ds : List Dt) (b : Bool) : someV ds (truthV b) = true := by
  apply isV_some (s := bBool)
  unfold truthV
  rw [isV]
  simp [noneV]
theorem numV_okV {M : Nat} {z : Int} (h : (digsOf z.natAbs).length ≤ M) : okV M (numV z) := by
  have h9 : B9 = 1000000000 := rfl
  exact ⟨h, fun d hd => by have := digsOf_lt _ d hd; omega, by simp, trivial⟩
theorem truthV_okV (M : Nat) (b : Bool) : okV M (truthV b) := ⟨by simp, by simp, by simp, trivial⟩
theorem zeroVl_okV (M k : Nat) : okV M (zeroVl k) := ⟨by simp, by simp, by simp, trivial⟩
theorem zeroS_okV (M : Nat) (s : ByteArray) : okV M (zeroS s) := by
  unfold zeroS
  split
  · exact zeroVl_okV _ _
  · split <;> exact zeroVl_okV _ _
theorem zeroS_some {ds : List Dt} {s t : ByteArray} (h : isD ds t = true) : someV ds (zeroS s) = true := by
  unfold zeroS
  split
  · apply isV_some (s := bInt)
    unfold zeroVl
    rw [isV]
    simp [noneV]
    decide
  · split
    · apply isV_some (s := bBool)
      unfold zeroVl
      rw [isV]
      simp [noneV]
    · apply isV_some (s := t)
      unfold zeroVl
      rw [isV]
      simp [noneV, h]
/-- A value's number has no more digits than it tells. -/
theorem val_len {ds : List Dt} {v : Vl} (h : someV ds v = true) : (digsOf v.val.natAbs).length ≤ v.ds.length := by
  obtain ⟨s, h⟩ := someV_iff.1 h
  have hv : v.val.natAbs = valD v.ds := valI_abs _ _
  rw [hv]
  apply digs_le
  apply valD_lt
  rcases isV_kinds h with hk | hk | hk
  · have := (isV_int h hk).2.1
    unfold rightN rightD at this
    simp only [Bool.and_eq_true, List.all_eq_true, decide_eq_true_eq] at this
    have h9 : B9 = 1000000000 := rfl
    intro d hd
    rw [h9]
    exact this.1.1 d hd
  · rw [(isV_bool h hk).2.2.1]; simp
  · rw [(isV_data h hk).2.2.1]; simp
theorem okV_ds {M : Nat} {v : Vl} (h : okV M v) : v.ds.length ≤ M := by
  obtain ⟨k, ng, df, dg, tr, nm, ff, fs⟩ := v
  exact h.1
def absV (l : List Vl) : Nat := (l.map fun v => v.val.natAbs).sum
theorem sumV_abs (l : List Vl) : (sumV l).natAbs ≤ absV l := by
  induction l with
  | nil => simp [sumV, absV]
  | cons v l ih =>
    simp only [sumV, absV, List.map_cons, List.sum_cons] at ih ⊢
    omega

/-! ### How great -/
mutual
def fB (D : Nat) : Tm → Nat
  | .mk _ _ _ _ ds _ ks => D + ds.length + fBs D ks
def fBs (D : Nat) : List Tm → Nat
  | [] => 0
  | t :: ts => fB D t + 1 + fBs D ts
end

/-- A value of some sort, its digits not too many. -/
def goodV (ds : List Dt) (M : Nat) (v : Vl) : Prop := someV ds v = true ∧ okV M v

theorem con_le {ds : List Dt} (hds : okD ds) {nm : ByteArray} {d c : Nat} (h : conAt ds nm 0 = some (d, c)) : c < 1000000000000 := by
  obtain ⟨D, C, _, hD, hC, _⟩ := conAt_get _ _ _ _ _ h
  exact Nat.lt_trans (List.getElem?_eq_some_iff.1 hC).1 (hds.2 D (List.mem_of_getElem? hD)).1

theorem numc_okV {c M : Nat} (h : c < 1000000000000) (hM : 2 ≤ M) : okV M (numV (c : Int)) := by
  apply numV_okV
  refine Nat.le_trans (digs_le ?_) hM
  rw [show B9 ^ 2 = 1000000000000000000 by decide]
  omega

theorem applyS_ok {ds : List Dt} (hds : okD ds) {nm : ByteArray} {v u : Vl} {M : Nat} (hM : 2 ≤ M) (hv : goodV ds M v) (h : applyS ds nm v = some u) : goodV ds M u := by
  unfold applyS at h
  split at h
  · cases h
  rename_i hk
  have hk : v.k = 3 := by simpa using hk
  have hf := some_formed hv.1 hk
  obtain ⟨s, hs⟩ := someV_iff.1 hv.1
  have hd := (isV_data hs hk).1
  split at h
  · split at h
    · injection h with h
      subst h
      refine ⟨numV_some _ _, numV_okV (Nat.le_trans (digs_le (k := 1) ?_) (Nat.le_trans (by decide) hM))⟩
      rw [Nat.pow_one]; decide
    · split at h
      · rename_i d c hc
        injection h with h
        subst h
        exact ⟨numV_some _ _, numc_okV (con_le hds hc) hM⟩
      · cases h
  · split at h
    · cases h
    · rename_i d c i hfs
      split at h
      · cases h
      · split at h
        · rename_i hh
          obtain ⟨d1, c1, D, C, g1, g2, g3, g4, g5⟩ := hf hh.1
          have hu := List.mem_of_getElem? h
          obtain ⟨w, hw⟩ : ∃ w, C.fs[i]? = some w := ⟨_, List.getElem?_eq_getElem (by have := (List.getElem?_eq_some_iff.1 h).1; omega)⟩
          refine ⟨isV_some ((isVs_iff g4).1 g5 i w u hw h), ?_⟩
          obtain ⟨k, ng, df, dg, tr, vn, ff, fs⟩ := v
          exact okVs_mem hv.2.2.2.2 hu
        · split at h
          · injection h with h
            subst h
            exact ⟨zeroS_some hd, zeroS_okV _ _⟩
          · cases h

theorem applyR_S {ds : List Dt} {nm : ByteArray} {v : Vl} (hv : v.k = 3 → formed ds v) : applyS ds nm v = if (applyR ds nm v).2 then some (applyR ds nm v).1 else none := by
  unfold applyS applyR
  split
  · rfl
  rename_i hk
  have hf := hv (by simpa using hk)
  split
  · split
    · rfl
    · cases conAt ds v.nm 0 <;> rfl
  · cases hfs : fieldS ds nm with
    | none => rfl
    | some x =>
      obtain ⟨d, c, i⟩ := x
      simp only []
      obtain ⟨D, C, s, hD, hC, hs⟩ := fieldS_some hfs
      split
      · rfl
      · split
        · rename_i hh
          obtain ⟨d1, c1, D1, C1, g1, g2, g3, g4, g5⟩ := hf hh.1
          rw [g1] at hh
          simp only [Option.getD_some, Prod.mk.injEq] at hh
          obtain ⟨_, rfl, rfl⟩ := hh
          rw [hD] at g2
          injection g2 with g2
          subst g2
          rw [hC] at g3
          injection g3 with g3
          subst g3
          have hi := (List.getElem?_eq_some_iff.1 hs).1
          rw [List.getElem?_eq_getElem (show i < v.fs.length by omega)]
          rfl
        · simp only [hD, Option.bind_some, hC, hs]; rfl

theorem right_val {ng : Bool} {dg : List Nat} (h : rightN ng dg = true) : (digsOf (valI ng dg).natAbs).length ≤ dg.length := by
  rw [valI_abs]
  apply digs_le
  apply valD_lt
  unfold rightN rightD at h
  simp only [Bool.and_eq_true, List.all_eq_true, decide_eq_true_eq] at h
  have h9 : B9 = 1000000000 := rfl
  intro d hd
  rw [h9]
  exact h.1.1 d hd

theorem kind_ok {ds : List Dt} (hds : okD ds) {k : Nat} {nm : ByteArray} {ng : Bool} {dg : List Nat} {l : List Vl} {u : Vl} {N D : Nat} (hD : 2 ≤ D) (hl : ∀ v ∈ l, goodV ds N v) (hs : (digsOf (absV l)).length ≤ N) (h : kindEval ds k nm ng dg l = some u) : goodV ds (D + dg.length + N) u := by
  unfold kindEval at h
  have tr : ∀ b, some (truthV b) = some u → goodV ds (D + dg.length + N) u := fun b hb => by
    injection hb with hb; subst hb; exact ⟨truthV_some _ _, truthV_okV _ _⟩
  by_cases c2 : k = 2
  · rw [if_pos c2] at h
    by_cases hr : rightN ng dg = true
    · rw [if_pos hr] at h
      injection h with h; subst h
      exact ⟨numV_some _ _, numV_okV (Nat.le_trans (right_val hr) (by omega))⟩
    · rw [if_neg hr] at h; cases h
  rw [if_neg c2] at h
  by_cases c3 : k = 3
  · rw [if_pos c3] at h; exact tr _ h
  rw [if_neg c3] at h
  by_cases c4 : k = 4
  · rw [if_pos c4] at h; exact tr _ h
  rw [if_neg c4] at h
  by_cases c5 : k = 5
  · rw [if_pos c5] at h
    by_cases hr : allV 1 l = true
    · rw [if_pos hr] at h
      injection h with h; subst h
      exact ⟨numV_some _ _, numV_okV (Nat.le_trans (digs_mono (sumV_abs l)) (by omega))⟩
    · rw [if_neg hr] at h; cases h
  rw [if_neg c5] at h
  by_cases c6 : k = 6
  · rw [if_pos c6] at h
    by_cases hr : (allV 1 l && rightN ng dg) = true
    · rw [if_pos hr] at h
      simp only [Bool.and_eq_true] at hr
      injection h with h; subst h
      refine ⟨numV_some _ _, numV_okV ?_⟩
      rw [Int.natAbs_mul]
      have h1 := digs_mul (sumV l).natAbs (valI ng dg).natAbs
      have h2 := digs_mono (sumV_abs l)
      have h3 := right_val hr.2
      omega
    · rw [if_neg hr] at h; cases h
  rw [if_neg c6] at h
  by_cases c7 : k = 7
  · rw [if_pos c7] at h
    match l, hl, h with
    | [v], hl, h =>
      have hv := hl v (by simp)
      exact applyS_ok hds (M := D + dg.length + N) (by omega) ⟨hv.1, okV.mono (by omega) hv.2⟩ h
    | [], _, h => cases h
    | _ :: _ :: _, _, h => cases h
  rw [if_neg c7] at h
  by_cases c8 : k = 8
  · rw [if_pos c8] at h
    match l, hl, h with
    | [a, b], hl, h =>
      simp only [] at h
      split at h
      · exact tr _ h
      · cases h
    | [], _, h => cases h
    | [_], _, h => cases h
    | _ :: _ :: _ :: _, _, h => cases h
  rw [if_neg c8] at h
  by_cases c9 : k = 9
  · rw [if_pos c9] at h
    match l, hl, h with
    | [a, b], hl, h =>
      simp only [] at h
      split at h
      · exact tr _ h
      · cases h
    | [], _, h => cases h
    | [_], _, h => cases h
    | _ :: _ :: _ :: _, _, h => cases h
  rw [if_neg c9] at h
  by_cases c10 : k = 10
  · rw [if_pos c10] at h
    match l, hl, h with
    | [a], hl, h =>
      simp only [] at h
      split at h
      · exact tr _ h
      · cases h
    | [], _, h => cases h
    | _ :: _ :: _, _, h => cases h
  rw [if_neg c10] at h
  by_cases c13 : k = 13
  · rw [if_pos c13] at h
    match l, hl, h with
    | [a, b], hl, h =>
      simp only [] at h
      split at h
      · exact tr _ h
      · cases h
    | [], _, h => cases h
    | [_], _, h => cases h
    | _ :: _ :: _ :: _, _, h => cases h
  rw [if_neg c13] at h
  by_cases c11 : k = 11
  · rw [if_pos c11] at h
    split at h
    · exact tr _ h
    · cases h
  rw [if_neg c11] at h
  split at h
  · exact tr _ h
  · cases h

theorem lastB_mem {bs : List Bd} {nm : ByteArray} {v : Vl} (h : lastB bs nm = some v) : ∃ b ∈ bs, b.v = v := by
  unfold lastB at h
  obtain ⟨b, hb, rfl⟩ := Option.map_eq_some_iff.1 h
  exact ⟨b, by simpa using List.mem_of_find?_eq_some hb, rfl⟩

mutual
theorem eval_ok {ds : List Dt} (hds : okD ds) {bs : List Bd} {D : Nat} (hD : 2 ≤ D) (hbs : ∀ b ∈ bs, okV D b.v) : ∀ (t : Tm) {v : Vl}, evalS ds bs t = .ok v → goodV ds (fB D t) v
  | .mk k nm ng df dg kf ks, v, h => by
    rw [evalS] at h
    split at h
    · split at h
      · cases h
      · rename_i x hx
        split at h
        · rename_i hs
          injection h with h
          subst h
          obtain ⟨b, hb, rfl⟩ := lastB_mem hx
          exact ⟨by rw [someV_cop]; exact hs, okV.mono (by simp only [fB]; omega) (okV_cop (hbs b hb))⟩
        · cases h
    · split at h
      · cases h
      · split at h
        · cases h
        · split at h
          · cases h
          · rename_i l hl
            obtain ⟨h1, h2⟩ := evals_ok hds hD hbs ks hl
            split at h
            · rename_i x hx
              injection h with h
              subst h
              exact kind_ok hds hD h1 h2 hx
            · cases h
theorem evals_ok {ds : List Dt} (hds : okD ds) {bs : List Bd} {D : Nat} (hD : 2 ≤ D) (hbs : ∀ b ∈ bs, okV D b.v) : ∀ (l : List Tm) {vs : List Vl}, evalsS ds bs l = .ok vs → (∀ v ∈ vs, goodV ds (fBs D l) v) ∧ (digsOf (absV vs)).length ≤ fBs D l
  | [], vs, h => by
    rw [evalsS] at h
    injection h with h
    subst h
    exact ⟨by simp, by simp [absV, digsOf_zero]⟩
  | t :: ts, vs, h => by
    rw [evalsS] at h
    split at h
    · cases h
    · rename_i v hv
      split at h
      · cases h
      · rename_i l hl
        injection h with h
        subst h
        have h1 := eval_ok hds hD hbs t hv
        obtain ⟨h2, h3⟩ := evals_ok hds hD hbs ts hl
        have h4 := val_len h1.1
        have h5 := okV_ds h1.2
        have h6 := digs_add v.val.natAbs (absV l)
        refine ⟨fun x hx => ?_, ?_⟩
        · rcases List.mem_cons.1 hx with rfl | hx
          · exact ⟨h1.1, okV.mono (by simp only [fBs]; omega) h1.2⟩
          · have := h2 x hx
            exact ⟨this.1, okV.mono (by simp only [fBs]; omega) this.2⟩
        · have : absV (v :: l) = v.val.natAbs + absV l := by simp [absV]
          rw [this]
          simp only [fBs]
          omega
end
theorem evals_len {ds : List Dt} {bs : List Bd} : ∀ {l : List Tm} {vs : List Vl}, evalsS ds bs l = .ok vs → vs.length = l.length
  | [], vs, h => by rw [evalsS] at h; injection h with h; subst h; rfl
  | t :: ts, vs, h => by
    rw [evalsS] at h
    split at h
    · cases h
    · split at h
      · cases h
      · rename_i l hl
        injection h with h
        subst h
        simp [evals_len hl]
end Go.GL

/-! GL, data: parts counted, as the laws' guards count them. -/
namespace Go.GL

abbrev BG : Nat := 140737488355328
abbrev CG : Int := 200000000000000

mutual
/-- Sizes that a machine holds. -/
def szV : Vl → Prop
  | .mk _ _ _ ds _ nm _ fs => ds.length ≤ BG ∧ nm.size ≤ BG ∧ fs.length ≤ BG ∧ szVs fs
def szVs : List Vl → Prop
  | [] => True
  | v :: vs => szV v ∧ szVs vs
end
mutual
def szT : Tm → Prop
  | .mk _ nm _ _ ds _ ks => ds.length ≤ BG ∧ nm.size ≤ BG ∧ ks.length ≤ BG ∧ szTs ks
def szTs : List Tm → Prop
  | [] => True
  | v :: vs => szT v ∧ szTs vs
end
def szC (c : Cn) : Prop := c.nm.size ≤ BG ∧ c.fs.length ≤ BG
def szD (d : Dt) : Prop := d.nm.size ≤ BG ∧ d.cs.length ≤ BG ∧ ∀ c ∈ d.cs, szC c
def szB (b : Bd) : Prop := b.nm.size ≤ BG ∧ szV b.v

theorem szVs_mem {l : List Vl} (h : szVs l) {v : Vl} (hv : v ∈ l) : szV v := by
  induction l with
  | nil => cases hv
  | cons x l ih =>
    rcases List.mem_cons.1 hv with rfl | hv
    · exact h.1
    · exact ih h.2 hv
theorem szTs_mem {l : List Tm} (h : szTs l) {v : Tm} (hv : v ∈ l) : szT v := by
  induction l with
  | nil => cases hv
  | cons x l ih =>
    rcases List.mem_cons.1 hv with rfl | hv
    · exact h.1
    · exact ih h.2 hv

mutual
def valN : Int → Vl → Int
  | m, .mk _ _ _ ds _ nm _ fs => cntV m (1 + ds.length + (nm.size / 8 : Nat)) fs
def cntV : Int → Int → List Vl → Int
  | _, n, [] => n
  | m, n, v :: vs => if n ≤ m then cntV m (n + valN (m - n) v) vs else n
end
mutual
def tmN : Int → Tm → Int
  | m, .mk _ nm _ _ ds _ ks => 1 + (nm.size / 8 : Nat) + ds.length + cntT (m - 1) 0 ks
def cntT : Int → Int → List Tm → Int
  | _, n, [] => n
  | m, n, v :: vs => if n ≤ m then cntT m (n + tmN (m - n) v) vs else n
end
def cntC : Int → Int → List Cn → Int
  | _, n, [] => n
  | m, n, c :: cs => if n ≤ m then cntC m (n + 1 + (c.nm.size / 8 : Nat) + c.fs.length) cs else n
def cntD : Int → Int → List Dt → Int
  | _, n, [] => n
  | m, n, d :: ds => if n ≤ m then cntD m (cntC m (n + 1 + (d.nm.size / 8 : Nat)) d.cs) ds else n
def cntB : Int → Int → List Bd → Int
  | _, n, [] => n
  | m, n, b :: bs => if n ≤ m then cntB m (n + 1 + (b.nm.size / 8 : Nat) + valN (m - n) b.v) bs else n

/-! ### Bounds -/
mutual
theorem valN_le : ∀ (m : Int) (v : Vl), szV v → -1 ≤ m → m ≤ 1000 → 1 ≤ valN m v ∧ valN m v ≤ max m 0 + CG
  | m, .mk _ _ _ ds _ nm _ fs, ⟨h1, h2, h3, h4⟩, hm1, hm2 => by
    have := cntV_le m (1 + ds.length + (nm.size / 8 : Nat)) fs h4 hm1 hm2 (by omega)
    simp only [valN]
    have h5 : (CG : Int) = 200000000000000 := rfl
    have h6 : BG = 140737488355328 := rfl
    omega
theorem cntV_le : ∀ (m n : Int) (l : List Vl), szVs l → -1 ≤ m → m ≤ 1000 → 0 ≤ n → n ≤ cntV m n l ∧ cntV m n l ≤ max n (m + CG)
  | m, n, [], _, _, _, _ => by simp only [cntV]; omega
  | m, n, v :: vs, h, h1, h2, hn => by
    simp only [cntV]
    by_cases hnm : n ≤ m
    · rw [if_pos hnm]
      have a := valN_le (m - n) v h.1 (by omega) (by omega)
      have b := cntV_le m (n + valN (m - n) v) vs h.2 h1 h2 (by omega)
      omega
    · rw [if_neg hnm]; omega
end
mutual
theorem tmN_le : ∀ (m : Int) (v : Tm), szT v → -1 ≤ m → m ≤ 1000 → 1 ≤ tmN m v ∧ tmN m v ≤ (m + 2) * 300000000000000
  | m, .mk _ nm _ _ ds _ ks, ⟨h1, h2, h3, h4⟩, hm1, hm2 => by
    simp only [tmN]
    have h6 : BG = 140737488355328 := rfl
    rcases Int.lt_or_le m 0 with hm | hm
    · have h0 : cntT (m - 1) 0 ks = 0 := by
        cases ks with
        | nil => rfl
        | cons t ts => simp only [cntT]; rw [if_neg (by omega)]
      omega
    · have := cntT_le (m - 1) 0 ks h4 (by omega) (by omega) (by omega)
      omega
theorem cntT_le : ∀ (m n : Int) (l : List Tm), szTs l → -1 ≤ m → m ≤ 1000 → 0 ≤ n → n ≤ cntT m n l ∧ cntT m n l ≤ max n (m + (m + 2) * 300000000000000)
  | m, n, [], _, _, _, _ => by simp only [cntT]; omega
  | m, n, v :: vs, h, h1, h2, hn => by
    simp only [cntT]
    by_cases hnm : n ≤ m
    · rw [if_pos hnm]
      have a := tmN_le (m - n) v h.1 (by omega) (by omega)
      have b := cntT_le m (n + tmN (m - n) v) vs h.2 h1 h2 (by omega)
      omega
    · rw [if_neg hnm]; omega
end
theorem cntC_le : ∀ (m n : Int) (l : List Cn), (∀ c ∈ l, szC c) → m ≤ 1000 → 0 ≤ n → n ≤ cntC m n l ∧ cntC m n l ≤ max n (m + CG)
  | m, n, [], _, _, _ => by simp only [cntC]; omega
  | m, n, v :: vs, h, h2, hn => by
    simp only [cntC]
    have h5 : (CG : Int) = 200000000000000 := rfl
    have h6 : BG = 140737488355328 := rfl
    by_cases hnm : n ≤ m
    · rw [if_pos hnm]
      have a := h v (by simp)
      unfold szC at a
      have b := cntC_le m (n + 1 + (v.nm.size / 8 : Nat) + v.fs.length) vs (fun c hc => h c (by simp [hc])) h2 (by omega)
      omega
    · rw [if_neg hnm]; omega
theorem cntD_le : ∀ (m n : Int) (l : List Dt), (∀ c ∈ l, szD c) → m ≤ 1000 → 0 ≤ n → n ≤ cntD m n l ∧ cntD m n l ≤ max n (m + CG)
  | m, n, [], _, _, _ => by simp only [cntD]; omega
  | m, n, v :: vs, h, h2, hn => by
    simp only [cntD]
    have h5 : (CG : Int) = 200000000000000 := rfl
    have h6 : BG = 140737488355328 := rfl
    by_cases hnm : n ≤ m
    · rw [if_pos hnm]
      have a := h v (by simp)
      unfold szD at a
      have c := cntC_le m (n + 1 + (v.nm.size / 8 : Nat)) v.cs a.2.2 h2 (by omega)
      have b := cntD_le m (cntC m (n + 1 + (v.nm.size / 8 : Nat)) v.cs) vs (fun c hc => h c (by simp [hc])) h2 (by omega)
      omega
    · rw [if_neg hnm]; omega
theorem cntB_le : ∀ (m n : Int) (l : List Bd), (∀ c ∈ l, szB c) → m ≤ 1000 → 0 ≤ n → n ≤ cntB m n l ∧ cntB m n l ≤ max n (m + 2 * CG)
  | m, n, [], _, _, _ => by simp only [cntB]; omega
  | m, n, v :: vs, h, h2, hn => by
    simp only [cntB]
    have h5 : (CG : Int) = 200000000000000 := rfl
    have h6 : BG = 140737488355328 := rfl
    by_cases hnm : n ≤ m
    · rw [if_pos hnm]
      have a := h v (by simp)
      unfold szB at a
      have c := valN_le (m - n) v.v a.2 (by omega) (by omega)
      have b := cntB_le m (n + 1 + (v.nm.size / 8 : Nat) + valN (m - n) v.v) vs (fun c hc => h c (by simp [hc])) h2 (by omega)
      omega
    · rw [if_neg hnm]; omega

/-! ### What few parts tell -/
mutual
def dgV : Vl → Prop
  | .mk _ _ _ ds _ _ _ fs => (∀ d ∈ ds, d ≤ 4294967295) ∧ dgVs fs
def dgVs : List Vl → Prop
  | [] => True
  | v :: vs => dgV v ∧ dgVs vs
end
mutual
theorem valN_few : ∀ (m : Int) (v : Vl), szV v → -1 ≤ m → m ≤ 1000 → valN m v ≤ m → dgV v → okV 1000 v
  | m, .mk _ _ _ ds _ nm _ fs, ⟨h1, h2, h3, h4⟩, hm1, hm2, h, hd => by
    simp only [valN] at h
    have := cntV_few m (1 + ds.length + (nm.size / 8 : Nat)) fs h4 hm1 hm2 (by omega) h hd.2
    exact ⟨by omega, hd.1, by omega, this.2⟩
theorem cntV_few : ∀ (m n : Int) (l : List Vl), szVs l → -1 ≤ m → m ≤ 1000 → 0 ≤ n → cntV m n l ≤ m → dgVs l → n + l.length ≤ m ∧ okVs 1000 l
  | m, n, [], _, _, _, _, h, _ => by simp only [cntV] at h; exact ⟨by simpa using h, trivial⟩
  | m, n, v :: vs, hs, h1, h2, hn, h, hd => by
    simp only [cntV] at h
    by_cases hnm : n ≤ m
    · rw [if_pos hnm] at h
      have a := valN_le (m - n) v hs.1 (by omega) (by omega)
      have b := cntV_few m (n + valN (m - n) v) vs hs.2 h1 h2 (by omega) h hd.2
      have c := valN_few (m - n) v hs.1 (by omega) (by omega) (by omega) hd.1
      refine ⟨by simp only [List.length_cons]; omega, c, b.2⟩
    · rw [if_neg hnm] at h; omega
end

mutual
def dgT : Tm → Prop
  | .mk _ _ _ _ ds _ ks => (∀ d ∈ ds, d ≤ 4294967295) ∧ dgTs ks
def dgTs : List Tm → Prop
  | [] => True
  | v :: vs => dgT v ∧ dgTs vs
end
theorem dgVs_of {l : List Vl} (h : ∀ v ∈ l, dgV v) : dgVs l := by
  induction l with
  | nil => trivial
  | cons x l ih => exact ⟨h x (by simp), ih fun t ht => h t (by simp [ht])⟩
theorem dgTs_of {l : List Tm} (h : ∀ v ∈ l, dgT v) : dgTs l := by
  induction l with
  | nil => trivial
  | cons x l ih => exact ⟨h x (by simp), ih fun t ht => h t (by simp [ht])⟩
mutual
/-- Parts of lengths that numbers hold. -/
def okE : Tm → Prop
  | .mk _ nm _ _ ds _ ks => nm.size < 1000000000 ∧ ds.length < 1000000 ∧ (∀ d ∈ ds, d ≤ 4294967295) ∧ ks.length < 1000000000 ∧ okEs ks
def okEs : List Tm → Prop
  | [] => True
  | t :: ts => okE t ∧ okEs ts
end
mutual
/-- A term's parts and digits. -/
def tmS : Tm → Nat
  | .mk _ _ _ _ ds _ ks => 1 + ds.length + tmSs ks
def tmSs : List Tm → Nat
  | [] => 0
  | t :: ts => tmS t + tmSs ts
end
mutual
theorem fB_le (D : Nat) : ∀ t : Tm, fB D t + 1 ≤ (D + 1) * tmS t
  | .mk _ _ _ _ ds _ ks => by
    have := fBs_le D ks
    have h : ds.length ≤ (D + 1) * ds.length := Nat.le_mul_of_pos_left _ (by omega)
    simp only [fB, tmS, Nat.mul_add, Nat.mul_one]
    omega
theorem fBs_le (D : Nat) : ∀ l : List Tm, fBs D l ≤ (D + 1) * tmSs l
  | [] => by simp [fBs]
  | t :: ts => by
    have h1 := fB_le D t
    have h2 := fBs_le D ts
    simp only [fBs, tmSs, Nat.mul_add]
    omega
end
mutual
theorem tmN_few : ∀ (m : Int) (v : Tm), szT v → -1 ≤ m → m ≤ 1000 → tmN m v ≤ m → dgT v → okE v ∧ (tmS v : Int) ≤ tmN m v
  | m, .mk _ nm _ _ ds _ ks, ⟨h1, h2, h3, h4⟩, hm1, hm2, h, hd => by
    simp only [tmN] at h ⊢
    have h5 : (BG : Int) = 140737488355328 := rfl
    rcases Int.lt_or_le m 0 with hm | hm
    · exfalso
      have h0 : cntT (m - 1) 0 ks = 0 := by
        cases ks with
        | nil => rfl
        | cons t ts => simp only [cntT]; rw [if_neg (by omega)]
      omega
    · have hle := cntT_le (m - 1) 0 ks h4 (by omega) (by omega) (by omega)
      have := cntT_few (m - 1) 0 ks h4 (by omega) (by omega) (by omega) (by omega) hd.2
      refine ⟨⟨by omega, by omega, hd.1, by omega, this.2.2⟩, ?_⟩
      simp only [tmS]
      omega
theorem cntT_few : ∀ (m n : Int) (l : List Tm), szTs l → -1 ≤ m → m ≤ 1000 → 0 ≤ n → cntT m n l ≤ m → dgTs l → n + l.length ≤ m ∧ n + (tmSs l : Int) ≤ cntT m n l ∧ okEs l
  | m, n, [], _, _, _, _, h, _ => by simp only [cntT] at h ⊢; exact ⟨by simpa using h, by simp [tmSs], trivial⟩
  | m, n, v :: vs, hs, h1, h2, hn, h, hd => by
    simp only [cntT] at h ⊢
    by_cases hnm : n ≤ m
    · rw [if_pos hnm] at h ⊢
      have a := tmN_le (m - n) v hs.1 (by omega) (by omega)
      have e := cntT_le m (n + tmN (m - n) v) vs hs.2 h1 h2 (by omega)
      have b := cntT_few m (n + tmN (m - n) v) vs hs.2 h1 h2 (by omega) h hd.2
      have c := tmN_few (m - n) v hs.1 (by omega) (by omega) (by omega) hd.1
      refine ⟨by simp only [List.length_cons]; omega, by simp only [tmSs]; omega, c.1, b.2.2⟩
    · rw [if_neg hnm] at h; omega
end
theorem cntC_few : ∀ (m n : Int) (l : List Cn), (∀ c ∈ l, szC c) → m ≤ 1000 → 0 ≤ n → cntC m n l ≤ m → n + l.length ≤ m ∧ ∀ c ∈ l, c.fs.length ≤ 1000
  | m, n, [], _, _, _, h => by simp only [cntC] at h; exact ⟨by simpa using h, by simp⟩
  | m, n, v :: vs, hs, h2, hn, h => by
    simp only [cntC] at h
    by_cases hnm : n ≤ m
    · rw [if_pos hnm] at h
      have hs2 : ∀ c ∈ vs, szC c := fun c hc => hs c (by simp [hc])
      have e := cntC_le m (n + 1 + (v.nm.size / 8 : Nat) + v.fs.length) vs hs2 h2 (by omega)
      have b := cntC_few m (n + 1 + (v.nm.size / 8 : Nat) + v.fs.length) vs hs2 h2 (by omega) h
      refine ⟨by simp only [List.length_cons]; omega, fun c hc => ?_⟩
      rcases List.mem_cons.1 hc with rfl | hc
      · omega
      · exact b.2 c hc
    · rw [if_neg hnm] at h; omega
theorem cntD_few : ∀ (m n : Int) (l : List Dt), (∀ c ∈ l, szD c) → m ≤ 1000 → 0 ≤ n → cntD m n l ≤ m → n + l.length ≤ m ∧ ∀ d ∈ l, d.cs.length ≤ 1000 ∧ ∀ c ∈ d.cs, c.fs.length ≤ 1000
  | m, n, [], _, _, _, h => by simp only [cntD] at h; exact ⟨by simpa using h, by simp⟩
  | m, n, v :: vs, hs, h2, hn, h => by
    simp only [cntD] at h
    by_cases hnm : n ≤ m
    · rw [if_pos hnm] at h
      have hs1 := (hs v (by simp)).2.2
      have hs2 : ∀ c ∈ vs, szD c := fun c hc => hs c (by simp [hc])
      have e1 := cntC_le m (n + 1 + (v.nm.size / 8 : Nat)) v.cs hs1 h2 (by omega)
      have e2 := cntD_le m (cntC m (n + 1 + (v.nm.size / 8 : Nat)) v.cs) vs hs2 h2 (by omega)
      have b := cntD_few m (cntC m (n + 1 + (v.nm.size / 8 : Nat)) v.cs) vs hs2 h2 (by omega) h
      have c := cntC_few m (n + 1 + (v.nm.size / 8 : Nat)) v.cs hs1 h2 (by omega) (by omega)
      refine ⟨by simp only [List.length_cons]; omega, fun d hd => ?_⟩
      rcases List.mem_cons.1 hd with rfl | hd
      · exact ⟨by omega, c.2⟩
      · exact b.2 d hd
    · rw [if_neg hnm] at h; omega
theorem cntB_few : ∀ (m n : Int) (l : List Bd), (∀ c ∈ l, szB c) → m ≤ 1000 → 0 ≤ n → cntB m n l ≤ m → (∀ b ∈ l, dgV b.v) → n + l.length ≤ m ∧ ∀ b ∈ l, okV 1000 b.v
  | m, n, [], _, _, _, h, _ => by simp only [cntB] at h; exact ⟨by simpa using h, by simp⟩
  | m, n, v :: vs, hs, h2, hn, h, hd => by
    simp only [cntB] at h
    by_cases hnm : n ≤ m
    · rw [if_pos hnm] at h
      have hs1 := (hs v (by simp)).2
      have hs2 : ∀ c ∈ vs, szB c := fun c hc => hs c (by simp [hc])
      have e1 := valN_le (m - n) v.v hs1 (by omega) (by omega)
      have e2 := cntB_le m (n + 1 + (v.nm.size / 8 : Nat) + valN (m - n) v.v) vs hs2 h2 (by omega)
      have b := cntB_few m (n + 1 + (v.nm.size / 8 : Nat) + valN (m - n) v.v) vs hs2 h2 (by omega) h (fun b hb => hd b (by simp [hb]))
      have c := valN_few (m - n) v.v hs1 (by omega) (by omega) (by omega) (hd v (by simp))
      refine ⟨by simp only [List.length_cons]; omega, fun d hd => ?_⟩
      rcases List.mem_cons.1 hd with rfl | hd
      · exact c
      · exact b.2 d hd
    · rw [if_neg hnm] at h; omega
end Go.GL

/-! GL, data: numbers that are right; the law of truths and numbers. -/
namespace Go.GL

theorem digs_right : ∀ (l : List Nat), (∀ d ∈ l, d < B9) → (∀ d, l.getLast? = some d → d ≠ 0) → digsOf (valD l) = l
  | [], _, _ => digsOf_zero
  | d :: l, h, hl => by
    have h9 : 0 < B9 := by decide
    have hd := h d (by simp)
    have hl2 : ∀ x, l.getLast? = some x → x ≠ 0 := fun x hx => hl x (by
      cases l with
      | nil => cases hx
      | cons y l => rw [List.getLast?_cons_cons]; exact hx)
    have ih := digs_right l (fun x hx => h x (by simp [hx])) hl2
    show digsOf (d + B9 * valD l) = _
    by_cases hz : 0 < d + B9 * valD l
    · rw [digsOf_pos hz, Nat.add_mul_mod_self_left, Nat.mod_eq_of_lt hd, Nat.add_mul_div_left _ _ h9, Nat.div_eq_of_lt hd, Nat.zero_add, ih]
    · exfalso
      have h0 : d = 0 := by omega
      have hv : B9 * valD l = 0 := by omega
      have hv : valD l = 0 := by
        rcases Nat.mul_eq_zero.1 hv with h | h
        · omega
        · exact h
      rw [hv, digsOf_zero] at ih
      subst ih
      exact hl d (by simp) h0
theorem right_norm {ng : Bool} {ds : List Nat} (h : rightN ng ds = true) : digsOf (valI ng ds).natAbs = ds ∧ decide (valI ng ds < 0) = ng := by
  unfold rightN rightD at h
  simp only [Bool.and_eq_true, List.all_eq_true, decide_eq_true_eq, Bool.or_eq_true, Bool.not_eq_true'] at h
  obtain ⟨⟨h1, h2⟩, h3⟩ := h
  have h9 : B9 = 1000000000 := rfl
  have hn : digsOf (valD ds) = ds := digs_right ds (fun d hd => by rw [h9]; exact h1 d hd) (fun d hd => by rw [hd] at h2; simpa using h2)
  refine ⟨by rw [valI_abs]; exact hn, ?_⟩
  cases ng with
  | false =>
    simp only [valI, Bool.false_eq_true, if_false]
    exact decide_eq_false (by omega)
  | true =>
    simp only [valI, if_true]
    apply decide_eq_true
    have : valD ds ≠ 0 := fun h0 => by
      rw [h0, digsOf_zero] at hn
      rcases h3 with h3 | h3
      · cases h3
      · exact h3 (by rw [← hn]; rfl)
    omega

/-- A number of a value that is one. -/
theorem int_norm {ds : List Dt} {v : Vl} (h : someV ds v = true) (hk : v.k = 1) : digsOf v.val.natAbs = v.ds ∧ decide (v.val < 0) = v.ng ∧ v.tr = false ∧ v.nm = bNil ∧ v.fs = [] := by
  obtain ⟨s, h⟩ := someV_iff.1 h
  obtain ⟨_, h1, h2, h3, h4⟩ := isV_int h hk
  obtain ⟨a, b⟩ := right_norm h1
  exact ⟨a, b, h2, h3, h4⟩
theorem sameV_int {ds : List Dt} {a b : Vl} (ha : someV ds a = true) (hb : someV ds b = true) (ka : a.k = 1) (kb : b.k = 1) : sameV a b = decide (a.val = b.val) := by
  obtain ⟨a1, a2, a3, a4, a5⟩ := int_norm ha ka
  obtain ⟨b1, b2, b3, b4, b5⟩ := int_norm hb kb
  obtain ⟨ak, ag, af, ad, atr, an, akf, aks⟩ := a
  obtain ⟨bk, bg, bf, bd, btr, bn, bkf, bks⟩ := b
  simp only [Vl.k, Vl.ng, Vl.ds, Vl.tr, Vl.nm, Vl.fs] at ka kb a1 a2 a3 a4 a5 b1 b2 b3 b4 b5
  subst ka kb a3 a4 a5 b3 b4 b5
  simp only [sameV, sameVs, decide_true, Bool.true_and, Bool.and_true]
  obtain ⟨x, hx⟩ : ∃ x, (Vl.mk 1 ag af ad false bNil akf []).val = x := ⟨_, rfl⟩
  obtain ⟨y, hy⟩ : ∃ y, (Vl.mk 1 bg bf bd false bNil bkf []).val = y := ⟨_, rfl⟩
  rw [hx] at a1 a2 ⊢
  rw [hy] at b1 b2 ⊢
  clear hx hy ha hb
  subst a1 a2 b1 b2
  by_cases hxy : x = y
  · subst hxy; simp
  · rw [decide_eq_false hxy]
    by_cases hs : decide (x < 0) = decide (y < 0)
    · have : ¬ digsOf x.natAbs = digsOf y.natAbs := fun h => by
        have h2 := digsOf_inj h
        have h3 := decide_eq_decide.1 hs
        omega
      simp [this]
    · simp [hs]

/-! ### Terms made of terms -/
section
variable {ds : List Dt} {bs : List Bd} {s t : Tm} {a b : Vl} {nm : ByteArray} {df f : Bool}
theorem ev_one {k : Nat} (hk : many k = some (some 1)) (hs : evalS ds bs s = .ok a) : evalS ds bs (.mk k nm false df [] f [s]) = match kindEval ds k nm false [] [a] with
    | some v => .ok v
    | none => .error 23 := by
  have h1 : k ≠ 1 := by rintro rfl; cases hk
  rw [evalS, if_neg (by simp), hk]
  simp only [List.length_cons, List.length_nil, manyOk, evalsS, hs]
  cases kindEval ds k nm false [] [a] <;> rfl
theorem ev_two {k : Nat} {m : Option Nat} (hk : many k = some m) (hm : manyOk m 2 = true) (hs : evalS ds bs s = .ok a) (ht : evalS ds bs t = .ok b) : evalS ds bs (.mk k nm false df [] f [s, t]) = match kindEval ds k nm false [] [a, b] with
    | some v => .ok v
    | none => .error 23 := by
  rw [evalS, if_neg (by simp), hk]
  simp only [List.length_cons, List.length_nil, hm, evalsS, hs, ht]
  cases kindEval ds k nm false [] [a, b] <;> rfl
theorem ev_not (hs : evalS ds bs s = .ok a) (ka : a.k = 2) : evalS ds bs (.mk 10 nm false df [] f [s]) = .ok (truthV (!a.tr)) := by
  rw [ev_one rfl hs]; simp [kindEval, allV, ka]
theorem ev_and (hs : evalS ds bs s = .ok a) (ka : a.k = 2) (ht : evalS ds bs t = .ok b) (kb : b.k = 2) : evalS ds bs (.mk 11 nm false df [] f [s, t]) = .ok (truthV (a.tr && b.tr)) := by
  rw [ev_two rfl rfl hs ht]; simp [kindEval, allV, ka, kb]
theorem ev_or (hs : evalS ds bs s = .ok a) (ka : a.k = 2) (ht : evalS ds bs t = .ok b) (kb : b.k = 2) : evalS ds bs (.mk 12 nm false df [] f [s, t]) = .ok (truthV (a.tr || b.tr)) := by
  rw [ev_two rfl rfl hs ht]; simp [kindEval, allV, ka, kb]
theorem ev_iff (hs : evalS ds bs s = .ok a) (ka : a.k = 2) (ht : evalS ds bs t = .ok b) (kb : b.k = 2) : evalS ds bs (.mk 13 nm false df [] f [s, t]) = .ok (truthV (a.tr == b.tr)) := by
  rw [ev_two rfl rfl hs ht]; simp [kindEval, allV, ka, kb]
theorem ev_le (hs : evalS ds bs s = .ok a) (ka : a.k = 1) (ht : evalS ds bs t = .ok b) (kb : b.k = 1) : evalS ds bs (.mk 9 nm false df [] f [s, t]) = .ok (truthV (decide (a.val ≤ b.val))) := by
  rw [ev_two rfl rfl hs ht]; simp [kindEval, allV, ka, kb]
theorem ev_eq (hs : evalS ds bs s = .ok a) (ka : a.k = 1) (ht : evalS ds bs t = .ok b) (kb : b.k = 1) : evalS ds bs (.mk 8 nm false df [] f [s, t]) = .ok (truthV (sameV a b)) := by
  rw [ev_two rfl rfl hs ht]; simp [kindEval, allV, ka, kb]
theorem ev_add (hs : evalS ds bs s = .ok a) (ka : a.k = 1) (ht : evalS ds bs t = .ok b) (kb : b.k = 1) : evalS ds bs (.mk 5 nm false df [] f [s, t]) = .ok (numV (a.val + b.val)) := by
  rw [ev_two rfl rfl hs ht]; simp [kindEval, allV, ka, kb, sumV]
end
end Go.GL
