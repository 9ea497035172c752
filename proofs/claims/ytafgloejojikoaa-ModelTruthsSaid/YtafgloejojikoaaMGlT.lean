/-
  GL, part T: what a reading of an argument gives: a value by value, of its type.
-/
import Derived.Test.YtafgloejojikoaaMGlS
import GoSem.ClaimChange
set_option linter.unusedSimpArgs false
set_option linter.unusedVariables false
/-! GL, part T: what a reading of an argument gives: a value by value, of its type. -/
namespace Go.GL

/-- A value by value that has its type. -/
inductive HasT (T : Tab) : Nat → PV → Prop where
  | bool (t : Nat) (ti : TI) (b : Bool) (ht : T t = some ti) (hd : ti.td = .bool) : HasT T t (.bool b)
  | int (t : Nat) (ti : TI) (k : IntKind) (n : Int) (ht : T t = some ti) (hd : ti.td = .int k) (hw : (Lit.int k n).wf = true) : HasT T t (.int k n)
  | str (t : Nat) (ti : TI) (s : ByteArray) (ht : T t = some ti) (hd : ti.td = .str) : HasT T t (.str s)
  | lst (t : Nat) (ti : TI) (e : Nat) (full : Bool) (xs : List PV) (ht : T t = some ti) (hd : ti.td = .slice e) (h : ∀ x ∈ xs, HasT T e x) : HasT T t (.lst full xs)
  | agg (t : Nat) (ti : TI) (fs : List (Nat × Nat)) (parts : List PV) (ht : T t = some ti) (hd : ti.td = .struct fs) (hl : parts.length = fs.length)
      (h : ∀ (j : Nat) (f : Nat × Nat) (p : PV), fs[j]? = some f → parts[j]? = some p → HasT T f.2 p) : HasT T t (.agg (parts.flatMap cellsOf))

mutual
def psize : PV → Nat
  | .str s => s.size + 1
  | .lst _ xs => psizeL xs + 1
  | .agg cs => psizeL cs + 1
  | _ => 1
def psizeL : List PV → Nat
  | [] => 0
  | p :: ps => psize p + psizeL ps
end

mutual
def bulkD {H : Type} : DataW H → Nat
  | .lit (.string bytes) => bytes.length + 1
  | .lit _ => 1
  | .nil => 1
  | .ptr d => bulkD d + 1
  | .slice elems spare => bulkL elems + bulkL spare + 1
  | .agg parts => bulkL parts + 1
  | .iface _ d => bulkD d + 1
  | .map entries => bulkE entries + 1
  | .held _ => 1
def bulkL {H : Type} : List (DataW H) → Nat
  | [] => 0
  | d :: r => bulkD d + bulkL r
def bulkE {H : Type} : List (Lit × DataW H) → Nat
  | [] => 0
  | x :: r => bulkX x + bulkE r
def bulkX {H : Type} : Lit × DataW H → Nat
  | (.string bytes, d) => bytes.length + bulkD d + 1
  | (_, d) => bulkD d + 1
end

theorem psizeL_append (a b : List PV) : psizeL (a ++ b) = psizeL a + psizeL b := by
  induction a with
  | nil => simp [psizeL]
  | cons p ps ih => simp only [List.cons_append, psizeL, ih]; omega

theorem psize_cells (p : PV) : psizeL (cellsOf p) ≤ psize p := by
  cases p with
  | agg cs => simp only [cellsOf, psize]; omega
  | _ => simp [cellsOf, psizeL]

theorem psizeL_flat (l : List PV) : psizeL (l.flatMap cellsOf) ≤ psizeL l := by
  induction l with
  | nil => simp [psizeL]
  | cons p ps ih =>
    simp only [List.flatMap_cons, psizeL_append, psizeL]
    have := psize_cells p
    omega

/-- Types of data, closed. -/
def goodTD (G : Nat → Bool) : TD → Bool
  | .bool | .int _ | .str => true
  | .slice e => G e
  | .struct fs => fs.all fun f => G f.2
  | _ => false

/-- Fields lie one behind the other. -/
def layFrom (T : Tab) : Nat → List (Nat × Nat) → Option Nat
  | o, [] => some o
  | o, (off, t) :: r => match T t with
    | some ti => if off = o then layFrom T (o + ti.size) r else none
    | none => none

def goodTI (T : Tab) (G : Nat → Bool) (ti : TI) : Bool := goodTD G ti.td && match ti.td with
  | .struct fs => layFrom T 0 fs == some ti.size && decide (0 < ti.bytes)
  | _ => decide (0 < ti.bytes)

/-- The cells of a world, as they are. -/
def cellsOfW (W : World) : FM := fun b o => W.cell? ⟨b, o, none⟩

mutual
/-- The longest text or row. -/
def pmax : PV → Nat
  | .str s => s.size
  | .lst _ xs => max xs.length (pmaxL xs)
  | .agg cs => pmaxL cs
  | _ => 0
def pmaxL : List PV → Nat
  | [] => 0
  | p :: ps => max (pmax p) (pmaxL ps)
end
theorem pmaxL_le {l : List PV} {n : Nat} (h : ∀ p ∈ l, pmax p ≤ n) : pmaxL l ≤ n := by
  induction l with
  | nil => simp [pmaxL]
  | cons p l ih =>
    simp only [pmaxL]
    exact Nat.max_le.2 ⟨h p (by simp), ih fun q hq => h q (by simp [hq])⟩
theorem pmaxL_mem {l : List PV} {n : Nat} (h : pmaxL l ≤ n) {p : PV} (hp : p ∈ l) : pmax p ≤ n := by
  induction l with
  | nil => cases hp
  | cons q l ih =>
    simp only [pmaxL] at h
    rcases List.mem_cons.1 hp with rfl | hp
    · omega
    · exact ih (by omega) hp
theorem pmax_cells {p : PV} {n : Nat} (h : pmax p ≤ n) : ∀ c ∈ cellsOf p, pmax c ≤ n := by
  intro c hc
  cases p with
  | agg cs =>
    simp only [pmax] at h
    exact pmaxL_mem (l := cs) h hc
  | _ => simp only [cellsOf, List.mem_singleton] at hc; subst hc; exact h
/-- Nothing of it longer than a machine's memory. -/
def fitW {H : Type} (P : Program) (t : Nat) (d : DataW H) : Prop := ∀ w ∈ DataW.weights P t d, w ≤ reachBytes
theorem weightsAll_mem {H : Type} {P : Program} {e : Nat} {l : List (DataW H)} {d : DataW H} (h : d ∈ l) {w : Nat} (hw : w ∈ DataW.weights P e d) : w ∈ DataW.weightsAll P e l := by
  induction l with
  | nil => cases h
  | cons x l ih =>
    simp only [DataW.weightsAll, List.mem_append]
    rcases List.mem_cons.1 h with rfl | h
    · exact .inl hw
    · exact .inr (ih h)
theorem weightsEach_mem {H : Type} {P : Program} : ∀ {ts : List Nat} {l : List (DataW H)} {j t : Nat} {d : DataW H}, ts[j]? = some t → l[j]? = some d → ∀ {w : Nat}, w ∈ DataW.weights P t d → w ∈ DataW.weightsEach P ts l
  | [], _, j, _, _, h, _, _, _ => by simp at h
  | _ :: _, [], j, _, _, _, h, _, _ => by simp at h
  | t :: ts, x :: l, j, t', d, h1, h2, w, hw => by
    simp only [DataW.weightsEach, List.mem_append]
    cases j with
    | zero => simp at h1 h2; subst h1 h2; exact .inl hw
    | succ j => exact .inr (weightsEach_mem (by simpa using h1) (by simpa using h2) hw)

/-- What is read. -/
structure Read (T : Tab) (W : World) (t : Nat) (cs : List Value) (b : Nat) (K : Prop) (p : PV) : Prop where
  has : HasT T t p
  size : psize p ≤ b
  big : K → pmax p ≤ reachBytes
  len : cs.length = (cellsOf p).length
  one : ∀ c ∈ cellsOf p, one c = true
  rep : ∀ (j : Nat) (c : PV) (v : Value), (cellsOf p)[j]? = some c → cs[j]? = some v → RepD (cellsOfW W) c v

theorem mapM_get {α β : Type} {f : α → Option β} : ∀ {l : List α} {r : List β}, l.mapM f = some r → r.length = l.length ∧ ∀ (j : Nat) (x : α), l[j]? = some x → ∃ y, r[j]? = some y ∧ f x = some y
  | [], r, h => by
    simp at h
    subst h
    exact ⟨rfl, by simp⟩
  | x :: l, r, h => by
    rw [List.mapM_cons] at h
    simp only [Option.pure_def, Option.bind_eq_bind] at h
    obtain ⟨y, h1, h⟩ := Option.bind_eq_some_iff.1 h
    obtain ⟨ys, h2, h⟩ := Option.bind_eq_some_iff.1 h
    injection h with h
    subst h
    obtain ⟨e1, e2⟩ := mapM_get h2
    refine ⟨by simp [e1], fun j z hz => ?_⟩
    cases j with
    | zero => simp at hz; subst hz; exact ⟨y, rfl, h1⟩
    | succ j => exact e2 j z hz

/-- A list chosen, one by one. -/
theorem choose_list {α : Type} (Q : Nat → α → Prop) : ∀ (m : Nat), (∀ i, i < m → ∃ x, Q i x) → ∃ xs : List α, xs.length = m ∧ ∀ (i : Nat) (x : α), xs[i]? = some x → Q i x
  | 0, _ => ⟨[], rfl, by simp⟩
  | m + 1, h => by
    obtain ⟨xs, h1, h2⟩ := choose_list Q m (fun i hi => h i (by omega))
    obtain ⟨x, hx⟩ := h m (by omega)
    refine ⟨xs ++ [x], by simp [h1], fun i y hy => ?_⟩
    by_cases hi : i < xs.length
    · rw [List.getElem?_append_left hi] at hy
      exact h2 i y hy
    · have hlt := (List.getElem?_eq_some_iff.1 hy).1
      simp only [List.length_append, List.length_singleton] at hlt
      have : i = xs.length := by omega
      subst this
      rw [List.getElem?_append_right (by omega)] at hy
      simp at hy
      subst hy
      rw [h1]
      exact hx

theorem psizeL_le {H : Type} : ∀ {xs : List PV} {ds : List (DataW H)}, xs.length = ds.length → (∀ (j : Nat) (x : PV) (d : DataW H), xs[j]? = some x → ds[j]? = some d → psize x ≤ bulkD d) → psizeL xs ≤ bulkL ds
  | [], [], _, _ => by simp [psizeL, bulkL]
  | x :: xs, d :: ds, hl, h => by
    have h0 := h 0 x d rfl rfl
    have := psizeL_le (xs := xs) (ds := ds) (by simpa using hl) (fun j x d h1 h2 => h (j + 1) x d h1 h2)
    simp only [psizeL, bulkL]
    omega
  | [], _ :: _, hl, _ => by simp at hl
  | _ :: _, [], hl, _ => by simp at hl

section
variable {P : Program} {T : Tab} {H : Type} {enc : TypeId × Value → H} {W : World}

theorem cells_get {base n : Nat} {a : Addr} {cs : List Value} (h : W.cells? base a n = some cs) : cs.length = n ∧ ∀ j, j < n → ∃ v, cs[j]? = some v ∧ W.cell? (a.add j) = some v := by
  unfold World.cells? at h
  split at h
  · obtain ⟨e1, e2⟩ := mapM_get h
    simp only [List.length_range] at e1
    refine ⟨e1, fun j hj => ?_⟩
    obtain ⟨v, h1, h2⟩ := e2 j j (by simp [hj])
    exact ⟨v, h1, h2⟩
  · cases h

theorem fields_read (hT : TOk P T) {cs : List Value} {N : Nat} (hN : cs.length = N) : ∀ (fs : List (Nat × Nat)) (o : Nat) (parts : List PV), layFrom T o fs = some N → parts.length = fs.length →
    (∀ (j : Nat) (f : Nat × Nat) (p : PV) (ti : TI), fs[j]? = some f → parts[j]? = some p → T f.2 = some ti → ∃ b K, Read T W f.2 ((cs.drop f.1).take ti.size) b K p) →
    o ≤ N ∧ o + (parts.flatMap cellsOf).length = N ∧ (∀ c ∈ parts.flatMap cellsOf, one c = true) ∧ ∀ (m : Nat) (c : PV) (v : Value), (parts.flatMap cellsOf)[m]? = some c → cs[o + m]? = some v → RepD (cellsOfW W) c v
  | [], o, parts, h, hl, _ => by
    have : parts = [] := List.eq_nil_of_length_eq_zero (by simpa using hl)
    subst this
    simp only [layFrom, Option.some.injEq] at h
    subst h
    exact ⟨Nat.le_refl _, by simp, by simp, by simp⟩
  | (off, t) :: fs, o, p :: parts, h, hl, hr => by
    unfold layFrom at h
    cases ht : T t with
    | none => rw [ht] at h; cases h
    | some ti =>
      rw [ht] at h
      simp only [] at h
      split at h
      · rename_i ho
        subst ho
        obtain ⟨h1, h2, h3, h4⟩ := fields_read hT hN fs (off + ti.size) parts h (by simpa using hl) (fun j f p ti hf hp hti => hr (j + 1) f p ti hf hp hti)
        obtain ⟨b, K, hrd⟩ := hr 0 (off, t) p ti rfl rfl ht
        have hlen : (cellsOf p).length = ti.size := by
          rw [← hrd.len]
          simp
          omega
        simp only [List.flatMap_cons, List.length_append, List.mem_append]
        refine ⟨by omega, by omega, fun c hc => hc.elim (hrd.one c) (h3 c), fun m c v hc hv => ?_⟩
        by_cases hm : m < (cellsOf p).length
        · rw [List.getElem?_append_left hm] at hc
          refine hrd.rep m c v hc ?_
          rw [List.getElem?_take_of_lt (by omega), List.getElem?_drop]
          exact hv
        · rw [List.getElem?_append_right (by omega), hlen] at hc
          refine h4 _ c v hc ?_
          rw [← hv]
          congr 1
          omega
      · cases h
  | _ :: _, _, [], _, hl, _ => by simp at hl

theorem trod_read (hT : TOk P T) {G : Nat → Bool} (hG : ∀ t, G t = true → ∃ ti, T t = some ti ∧ goodTI T G ti = true) :
    ∀ (fuel t : Nat) (cs : List Value) (d : DataW H) (ps : List MemPlace), G t = true → DataW.trod enc P W 0 (fun _ => true) true fuel t cs = some (d, ps) → ∃ p, Read T W t cs (bulkD d) (fitW P t d) p := by
  intro fuel
  induction fuel with
  | zero => intro t cs d ps _ h; cases h
  | succ fuel ih =>
    intro t cs d ps hg h
    obtain ⟨ti, ht, hgood⟩ := hG t hg
    unfold goodTI at hgood
    simp only [Bool.and_eq_true] at hgood
    obtain ⟨hgood, hlay⟩ := hgood
    obtain ⟨D, hD, _, hd⟩ := hT.und_run ht W
    have hDu := hD
    have leaf : ∀ {c : PV} {v : Value} {b : Nat} {K : Prop}, HasT T t c → psize c ≤ b → (K → pmax c ≤ reachBytes) → cellsOf c = [c] → one c = true → RepD (cellsOfW W) c v → Read T W t [v] b K c := by
      intro c v b K h1 h2 h6 h3 h4 h5
      refine ⟨h1, h2, h6, by rw [h3]; rfl, by rw [h3]; simpa using h4, fun j c' v' hc hv => ?_⟩
      rw [h3] at hc
      cases j with
      | zero => simp at hc hv; subst hc hv; exact h5
      | succ j => simp at hc
    rw [← hd] at hgood
    unfold DataW.trod at h
    rw [hD] at h
    split at h
    · rename_i b hq
      injection hq with hq
      subst hq
      injection h with h
      simp only [Prod.mk.injEq] at h
      obtain ⟨rfl, rfl⟩ := h
      exact ⟨.bool b, leaf (.bool t ti b ht hd.symm) (by simp [psize, bulkD]) (fun _ => by simp [pmax]) rfl rfl (.bool b)⟩
    · rename_i k k' n hq
      injection hq with hq
      subst hq
      split at h
      · rename_i hh
        obtain ⟨rfl, hw⟩ := hh
        injection h with h
        simp only [Prod.mk.injEq] at h
        obtain ⟨rfl, rfl⟩ := h
        exact ⟨.int k' n, leaf (.int t ti k' n ht hd.symm hw) (by simp [psize, bulkD]) (fun _ => by simp [pmax]) rfl rfl (.int k' n)⟩
      · cases h
    · rename_i hq
      injection hq with hq
      subst hq
      simp [tdOf, goodTD] at hgood
    · rename_i s hq
      injection hq with hq
      subst hq
      split at h
      · injection h with h
        simp only [Prod.mk.injEq] at h
        obtain ⟨rfl, rfl⟩ := h
        refine ⟨.str s, leaf (.str t ti s ht hd.symm) ?_ (fun hK => ?_) rfl rfl (.str s)⟩
        · simp only [psize, bulkD, Array.length_toList]
          exact Nat.le_refl _
        · have := hK _ (by simp only [DataW.weights]; exact List.mem_singleton.2 rfl)
          simp only [Array.length_toList] at this
          simp only [pmax]
          exact this
      · cases h
    · rename_i hq
      injection hq with hq
      subst hq
      simp [tdOf, goodTD] at hgood
    · rename_i hq
      injection hq with hq
      subst hq
      simp [tdOf, goodTD] at hgood
    · rename_i e hq
      injection hq with hq
      subst hq
      injection h with h
      simp only [Prod.mk.injEq] at h
      obtain ⟨rfl, rfl⟩ := h
      exact ⟨.lst true [], leaf (.lst t ti e true [] ht hd.symm (by simp)) (by simp [psize, psizeL, bulkD]) (fun _ => by simp [pmax, pmaxL]) rfl rfl
        (.lst true [] none 0 0 0 0 (fun _ _ => .nilFunc) (by simp) (by simp) (by simp) (by simp) (by simp) (by simp) (by simp))⟩
    · rename_i e a len cap hq
      injection hq with hq
      subst hq
      simp only [] at h
      split at h
      · rename_i hh
        obtain ⟨_, hlc, _⟩ := hh
        obtain ⟨elems, h1, h⟩ := Option.bind_eq_some_iff.1 h
        obtain ⟨rest, h2, h⟩ := Option.map_eq_some_iff.1 h
        simp only [Prod.mk.injEq] at h
        obtain ⟨rfl, rfl⟩ := h
        simp only [tdOf, goodTD] at hgood
        obtain ⟨ei, he, hge⟩ := hG e hgood
        obtain ⟨i, hi, hsz, hby, _⟩ := hT.typeInfo_run he
        have hbp : 0 < P.bytesOf e := by
          unfold goodTI at hge
          simp only [Bool.and_eq_true] at hge
          have h0 : 0 < ei.bytes := by
            have := hge.2
            split at this
            · simp only [Bool.and_eq_true, decide_eq_true_eq] at this; exact this.2
            · simpa using this
          unfold Program.bytesOf
          rw [hi]
          simpa [hby] using h0
        have hpos := (hT.ok e ei he).2.2.2
        have hco : P.cellsOf e = ei.size := by unfold Program.cellsOf; rw [hi]; exact hsz
        rw [hco] at h1 h2
        obtain ⟨l1, g1⟩ := mapM_get h1
        simp only [List.length_range] at l1
        have hl2 : rest.length = cap - len := by
          simp only [if_true] at h2
          have := (mapM_get h2).1
          simpa using this
        -- each element
        have each : ∀ i, i < len → ∃ x : PV, ∃ cs', ∃ y : DataW H × List MemPlace, elems[i]? = some y ∧ W.cells? 0 (a.add (i * ei.size)) ei.size = some cs' ∧ Read T W e cs' (bulkD y.1) (fitW P e y.1) x := by
          intro i hi'
          obtain ⟨y, hy, hf⟩ := g1 i i (by simp [hi'])
          obtain ⟨cs', hc, hr⟩ := Option.bind_eq_some_iff.1 hf
          obtain ⟨x, hx⟩ := ih e cs' y.1 y.2 hgood hr
          exact ⟨x, cs', y, hy, hc, hx⟩
        obtain ⟨xs, hxl, hx⟩ := choose_list (fun i x => ∃ cs', ∃ y : DataW H × List MemPlace, elems[i]? = some y ∧ W.cells? 0 (a.add (i * ei.size)) ei.size = some cs' ∧ Read T W e cs' (bulkD y.1) (fitW P e y.1) x) len each
        have hcell : ∀ (i : Nat) (x : PV), xs[i]? = some x → (cellsOf x).length = ei.size ∧ ∀ (j : Nat) (c : PV), (cellsOf x)[j]? = some c → one c = true ∧ ∃ v, a = ⟨a.block, a.off, none⟩ ∧ W.cell? ⟨a.block, a.off + i * ei.size + j, none⟩ = some v ∧ RepD (cellsOfW W) c v := by
          intro i x hxi
          obtain ⟨cs', y, hy, hc, hr⟩ := hx i x hxi
          obtain ⟨c1, c2⟩ := cells_get hc
          refine ⟨by rw [← hr.len, c1], fun j c hj => ?_⟩
          have hlt := (List.getElem?_eq_some_iff.1 hj).1
          rw [← hr.len, c1] at hlt
          obtain ⟨v, hv, hcv⟩ := c2 j hlt
          have hadd : ∀ m, W.cell? (a.add m) = some v → a.spot = none ∨ 0 < m := by
            intro m hm
            by_cases hm0 : m = 0
            · left
              subst hm0
              simp only [Addr.add, if_true] at hm
              unfold World.cell? at hm
              split at hm
              · split at hm
                · cases hm
                · rename_i hs; simpa using hs
              · cases hm
            · right; omega
          refine ⟨hr.one c (List.mem_of_getElem? hj), v, ?_, ?_, hr.rep j c v hj hv⟩
          · -- the first element's first cell is read
            have hi0 : 0 < len := by have := (List.getElem?_eq_some_iff.1 hxi).1; omega
            have hx0 : ∃ x0, xs[0]? = some x0 := ⟨xs[0]'(by omega), by simp⟩
            obtain ⟨x0, hx0⟩ := hx0
            obtain ⟨cs0, y0, _, hc0, _⟩ := hx 0 x0 hx0
            obtain ⟨_, c3⟩ := cells_get hc0
            obtain ⟨v0, _, hv0⟩ := c3 0 hpos
            have e0 : (a.add (0 * ei.size)).add 0 = a := by simp [Addr.add]
            rw [e0] at hv0
            have hsp : a.spot = none := by
              unfold World.cell? at hv0
              split at hv0
              · split at hv0
                · cases hv0
                · rename_i hs; simpa using hs
              · cases hv0
            cases a
            simp only at hsp
            subst hsp
            rfl
          · have e1 : (a.add (i * ei.size)).add j = ⟨a.block, a.off + i * ei.size + j, a.spot⟩ ∨ (a.add (i * ei.size)).add j = ⟨a.block, a.off + i * ei.size + j, none⟩ := by
              unfold Addr.add
              by_cases q1 : i * ei.size = 0 <;> by_cases q2 : j = 0 <;> simp [q1, q2]
            rcases e1 with e1 | e1
            · rw [e1] at hcv
              unfold World.cell? at hcv ⊢
              split at hcv
              · rename_i hB
                split at hcv
                · cases hcv
                · simpa [hB] using hcv
              · cases hcv
            · rw [e1] at hcv; exact hcv
        refine ⟨.lst rest.isEmpty xs, leaf (.lst t ti e _ xs ht hd.symm (fun x hxm => ?_)) ?_ (fun hK => ?_) rfl rfl ?_⟩
        · obtain ⟨i, hi'⟩ := List.getElem?_of_mem hxm
          obtain ⟨cs', y, _, _, hr⟩ := hx i x hi'
          exact hr.has
        · simp only [psize, bulkD]
          have := psizeL_le (xs := xs) (ds := elems.map (·.1)) (by simp; omega) (fun j x d h3 h4 => by
            obtain ⟨cs', y, hy, _, hr⟩ := hx j x h3
            rw [List.getElem?_map, hy] at h4
            injection h4 with h4
            subst h4
            exact hr.size)
          omega
        · unfold fitW at hK
          simp only [DataW.weights, hDu] at hK
          simp only [pmax]
          have hlen := hK _ (List.mem_cons_self)
          refine Nat.max_le.2 ⟨Nat.le_trans ?_ hlen, pmaxL_le fun x hxm => ?_⟩
          · refine Nat.le_trans ?_ (Nat.le_mul_of_pos_right _ hbp)
            simp only [List.length_map]
            omega
          · obtain ⟨i, hi'⟩ := List.getElem?_of_mem hxm
            obtain ⟨cs', y, hy, _, hr⟩ := hx i x hi'
            exact hr.big fun w hw => hK w (List.mem_cons_of_mem _ (List.mem_append_left _ (weightsAll_mem (List.mem_map.2 ⟨y, List.mem_of_getElem? hy, rfl⟩) hw)))
        · have := RepD.lst (F := cellsOfW W) rest.isEmpty xs (some a) a.block a.off cap ei.size (fun i j => (W.cell? ⟨a.block, a.off + i * ei.size + j, none⟩).getD .nilFunc) (by omega)
            (fun he' => by
              have : rest = [] := by simpa using he'
              rw [this] at hl2
              simp at hl2
              omega)
            (fun hne => by
              have : ∃ x0, xs[0]? = some x0 := by
                cases xs with
                | nil => exact absurd rfl hne
                | cons x0 xs => exact ⟨x0, rfl⟩
              obtain ⟨x0, hx0⟩ := this
              have h3 := hcell 0 x0 hx0
              have hlt : 0 < (cellsOf x0).length := by rw [h3.1]; exact hpos
              obtain ⟨_, v, e1, _⟩ := h3.2 0 _ (List.getElem?_eq_getElem hlt)
              exact congrArg some e1)
            (fun x hxm => by obtain ⟨i, hi'⟩ := List.getElem?_of_mem hxm; exact (hcell i x hi').1)
            (fun x hxm c hc => by
              obtain ⟨i, hi'⟩ := List.getElem?_of_mem hxm
              obtain ⟨j, hj⟩ := List.getElem?_of_mem hc
              exact ((hcell i x hi').2 j c hj).1)
            (fun i x j c hxi hc => by
              obtain ⟨_, v, _, hv, _⟩ := (hcell i x hxi).2 j c hc
              show W.cell? _ = _
              rw [hv]
              rfl)
            (fun i x j c hxi hc => by
              obtain ⟨_, v, _, hv, hr⟩ := (hcell i x hxi).2 j c hc
              rw [hv]
              exact hr)
          rw [hxl] at this
          exact this
      · cases h
    · rename_i cs xx cs2 fs hq
      injection hq with hq
      subst hq
      split at h
      · rename_i hlen
        obtain ⟨xs, h1, h⟩ := Option.map_eq_some_iff.1 h
        simp only [Prod.mk.injEq] at h
        obtain ⟨rfl, rfl⟩ := h
        rw [← hd] at hlay
        simp only [tdOf, Bool.and_eq_true, beq_iff_eq] at hlay
        have hlay := hlay.1
        simp only [tdOf, goodTD, List.all_eq_true] at hgood
        obtain ⟨l1, g1⟩ := mapM_get h1
        have hco : P.cellsOf t = ti.size := by
          obtain ⟨i, hi, hsz, _⟩ := hT.typeInfo_run ht
          unfold Program.cellsOf
          rw [hi]
          exact hsz
        have each : ∀ i, i < fs.toList.length → ∃ p : PV, ∃ (f : Field) (y : DataW H × List MemPlace) (fti : TI), fs.toList[i]? = some f ∧ xs[i]? = some y ∧ T f.type = some fti ∧ Read T W f.type ((cs.drop f.offset).take fti.size) (bulkD y.1) (fitW P f.type y.1) p := by
          intro i hi'
          obtain ⟨y, hy, hf⟩ := g1 i fs.toList[i] (List.getElem?_eq_getElem hi')
          have hgf : G fs.toList[i].type = true := hgood (fs.toList[i].offset, fs.toList[i].type) (List.mem_map.2 ⟨fs.toList[i], List.getElem_mem hi', rfl⟩)
          obtain ⟨fti, hfti, _⟩ := hG _ hgf
          obtain ⟨p, hp⟩ := ih _ _ y.1 y.2 hgf hf
          have hcf : P.cellsOf fs.toList[i].type = fti.size := by
            obtain ⟨i', hi', hsz, _⟩ := hT.typeInfo_run hfti
            unfold Program.cellsOf
            rw [hi']
            exact hsz
          rw [hcf] at hp
          exact ⟨p, _, y, fti, List.getElem?_eq_getElem hi', hy, hfti, hp⟩
        obtain ⟨parts, hpl, hp⟩ := choose_list (fun i p => ∃ (f : Field) (y : DataW H × List MemPlace) (fti : TI), fs.toList[i]? = some f ∧ xs[i]? = some y ∧ T f.type = some fti ∧ Read T W f.type ((cs.drop f.offset).take fti.size) (bulkD y.1) (fitW P f.type y.1) p) _ each
        obtain ⟨_, f2, f3, f4⟩ := fields_read (W := W) hT (cs := cs) (by rw [hlen, hco]) (fs.toList.map fun f => (f.offset, f.type)) 0 parts hlay (by simp [hpl]) (fun j f p fti hf hpj hfti => by
          obtain ⟨f', y, fti', hf', _, hfti', hr⟩ := hp j p hpj
          rw [List.getElem?_map, hf'] at hf
          injection hf with hf
          subst hf
          rw [hfti'] at hfti
          injection hfti with hfti
          subst hfti
          exact ⟨_, _, hr⟩)
        simp only [Nat.zero_add] at f2 f4
        refine ⟨.agg (parts.flatMap cellsOf), .agg t ti (fs.toList.map fun (f : Field) => (f.offset, f.type)) parts ht hd.symm (by simp [hpl]) (fun j f p hf hpj => ?_), ?_, (fun hK => ?_), ?_, f3, f4⟩
        · obtain ⟨f', y, fti', hf', _, hfti', hr⟩ := hp j p hpj
          rw [List.getElem?_map, hf'] at hf
          injection hf with hf
          subst hf
          exact hr.has
        · simp only [psize, bulkD]
          have h1 := psizeL_flat parts
          have h2 := psizeL_le (xs := parts) (ds := xs.map (·.1)) (by simp [hpl, l1]) (fun j x d h3 h4 => by
            obtain ⟨_, y, _, _, hy, _, hr⟩ := hp j x h3
            rw [List.getElem?_map, hy] at h4
            injection h4 with h4
            subst h4
            exact hr.size)
          omega
        · unfold fitW at hK
          simp only [DataW.weights, hDu] at hK
          simp only [pmax]
          refine pmaxL_le fun c hc => ?_
          obtain ⟨p, hpm, hcp⟩ := List.mem_flatMap.1 hc
          obtain ⟨i, hi'⟩ := List.getElem?_of_mem hpm
          obtain ⟨f', y, _, hf', hy, _, hr⟩ := hp i p hi'
          exact pmax_cells (hr.big fun w hw => hK w (weightsEach_mem (j := i) (by rw [List.getElem?_map, hf']; rfl) (by rw [List.getElem?_map, hy]; rfl) hw)) c hcp
        · show cs.length = _
          simp only [cellsOf]
          rw [f2, hlen, hco]
      · cases h
    all_goals first | (cases h; done) | (rename_i hq; injection hq with hq; subst hq; simp [tdOf, goodTD] at hgood; done) | skip

end
end Go.GL
