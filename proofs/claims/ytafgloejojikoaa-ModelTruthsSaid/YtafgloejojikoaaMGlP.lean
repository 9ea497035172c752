/-
  GL, part P: operations that touch no state tell what the machine's tell.
-/
import Derived.Test.YtafgloejojikoaaMGlN
set_option linter.unusedSimpArgs false
set_option linter.unusedVariables false
/-! GL, part P: operations that touch no state tell what the machine's tell. -/
namespace Go.GL

theorem rep_ofV (F : FM) (φ : PM) (v : Value) : Rep F φ (ofV v) v := by
  unfold ofV
  split
  · exact .data _ _ rfl (.bool _)
  · exact .data _ _ rfl (.int _ _)
  · exact .data _ _ rfl (.str _)
  · exact .data _ _ rfl (.lst true [] none 0 0 0 0 (fun _ _ => .nilFunc) (by simp) (by simp) (by simp) (by simp) (by simp) (by simp) (by simp))
  · exact .nilp
  · exact .nilm
  · exact .nilFunc
  · exact .data _ _ rfl .nilIface
  · exact .junk _

theorem rep_undef (F : FM) (φ : PM) : Rep F φ undefP undef := .tup [] #[] rfl (by simp)

theorem flat_cells {F : FM} {φ : PM} {p : PV} {v : Value} (h : Rep F φ p v) (hf : flat p = true) :
    v.cells.size = (cellsOf p).length ∧ ∀ (j : Nat) (c : PV), (cellsOf p)[j]? = some c → one c = true ∧ ∃ u, v.cells[j]? = some u ∧ Rep F φ c u :=
  h.cells (by rintro rfl; cases hf) (by rintro l rfl; cases hf)

/-- The world as it was, but for what was drawn. -/
structure Quiet (w w' : World) : Prop where
  heap : w'.heap = w.heap
  os : w'.os = w.os
  tape : w'.tape = w.tape
  output : w'.output = w.output
theorem Quiet.refl (w : World) : Quiet w w := ⟨rfl, rfl, rfl, rfl⟩

/-- What an operation's run must be. -/
def Tells (P : Program) (F : FM) (φ : PM) (w : World) (x : Sem Value) : OpR → Prop
  | .val p => ∃ u, x.run P w = .ok u w ∧ Rep F φ p u
  | .panic p => ∃ u w', x.run P w = .halt (.panic u) w' ∧ Quiet w w' ∧ Rep F φ p u
def TellsN (P : Program) (F : FM) (φ : PM) (w : World) (x : Sem Next) : OpR → Prop
  | .val p => ∃ u, x.run P w = .ok (.value u) w ∧ Rep F φ p u
  | .panic p => ∃ u w', x.run P w = .halt (.panic u) w' ∧ Quiet w w' ∧ Rep F φ p u
theorem Tells.next {P : Program} {F : FM} {φ : PM} {w : World} {x : Sem Value} {r : OpR} (h : Tells P F φ w x r) : TellsN P F φ w (do pure (.value (← x))) r := by
  cases r with
  | val p => obtain ⟨u, h, hr⟩ := h; exact ⟨u, by simp [h], hr⟩
  | panic p => obtain ⟨u, w', h, q, hr⟩ := h; exact ⟨u, w', by simp [h], q, hr⟩
theorem Tells.panic {P : Program} {F : FM} {φ : PM} {w w' : World} {x : Sem Value} {u : Value} (h : x.run P w = .halt (.panic u) w') (hq : Quiet w w') : Tells P F φ w x (.panic .junk) :=
  ⟨u, w', h, hq, .junk _⟩

theorem run_bounds (P : Program) (w : World) {α : Type} (k : IntKind) (x y : Int) (c : BoundsCode) : ∃ u w', (boundsPanic k x y c : Sem α).run P w = .halt (.panic u) w' ∧ Quiet w w' := by
  unfold boundsPanic
  split
  · refine ⟨.iface P.rt.boundsError (.agg #[.int .i64 (IntKind.i64.wrap x), .int .i64 y, .bool ((Question.extern "runtime.boundsError.signed" 2).cut (w.tape w.drawn (Question.extern "runtime.boundsError.signed" 2)) == 1), .int .u8 c.toNat]), { w with drawn := w.drawn + 1 }, ?_, ⟨rfl, rfl, rfl, rfl⟩⟩
    simp [runtimePanic, Question.forced]
  · refine ⟨.iface P.rt.boundsError (.agg #[.int .i64 (IntKind.i64.wrap x), .int .i64 y, .bool (k != .u64), .int .u8 c.toNat]), w, ?_, Quiet.refl w⟩
    simp [runtimePanic]

/-! ### struct literals -/
theorem fold_set (off : Nat) : ∀ (vs : List Value) (k : Nat) (C : Array Value) (i : Nat),
    ((vs.zipIdx k).foldl (fun cs (c : Value × Nat) => cs.setIfInBounds (off + c.2) c.1) C)[i]? = if off + k ≤ i ∧ i < off + k + vs.length ∧ i < C.size then vs[i - off - k]? else C[i]?
  | [], k, C, i => by simp; omega
  | v :: vs, k, C, i => by
    simp only [List.zipIdx_cons, List.foldl_cons]
    rw [fold_set off vs (k + 1) (C.setIfInBounds (off + k) v) i]
    simp only [Array.size_setIfInBounds, Array.getElem?_setIfInBounds, List.length_cons]
    by_cases h1 : i = off + k
    · subst h1
      rw [if_neg (by omega)]
      have e0 : off + k - off - k = 0 := by omega
      rw [e0]
      by_cases h2 : off + k < C.size
      · have e1 : off + k < off + k + (vs.length + 1) := by omega
        simp [h2, e1]
      · simp [h2]
        try omega
    · by_cases h2 : off + (k + 1) ≤ i ∧ i < off + (k + 1) + vs.length ∧ i < C.size
      · rw [if_pos h2, if_pos (by omega)]
        rw [show i - off - k = (i - off - (k + 1)) + 1 by omega]
        simp
      · rw [if_neg h2, if_neg (fun e => h1 e.symm), if_neg (by omega)]
theorem fold_set_size (off : Nat) : ∀ (vs : List Value) (k : Nat) (C : Array Value), ((vs.zipIdx k).foldl (fun cs (c : Value × Nat) => cs.setIfInBounds (off + c.2) c.1) C).size = C.size
  | [], k, C => rfl
  | v :: vs, k, C => by simp only [List.zipIdx_cons, List.foldl_cons]; rw [fold_set_size off vs (k + 1)]; simp

theorem splice_get (cs : List PV) (off : Nat) (new : List PV) (h : off + new.length ≤ cs.length) (i : Nat) :
    (splice cs off new)[i]? = if off ≤ i ∧ i < off + new.length then new[i - off]? else cs[i]? := by
  unfold splice
  by_cases h1 : i < off
  · rw [if_neg (by omega), List.append_assoc, List.getElem?_append_left (by simp; omega), List.getElem?_take_of_lt h1]
  · rw [List.append_assoc, List.getElem?_append_right (by simp; omega)]
    have e : i - (List.take off cs).length = i - off := by simp; omega
    rw [e]
    by_cases h2 : i < off + new.length
    · rw [if_pos (by omega), List.getElem?_append_left (by omega)]
    · rw [if_neg (by omega), List.getElem?_append_right (by omega), List.getElem?_drop]
      congr 1
      omega
theorem splice_length (cs : List PV) (off : Nat) (new : List PV) (h : off + new.length ≤ cs.length) : (splice cs off new).length = cs.length := by
  unfold splice; simp; omega

/-- Cells, and an array of values. -/
def RC (F : FM) (φ : PM) (cs : List PV) (C : Array Value) : Prop :=
  C.size = cs.length ∧ ∀ (j : Nat) (c : PV), cs[j]? = some c → one c = true ∧ ∃ v, C[j]? = some v ∧ Rep F φ c v

theorem RC.splice {F : FM} {φ : PM} {cs : List PV} {C : Array Value} (h : RC F φ cs C) {new : List PV} {D : Array Value} (g : RC F φ new D) {off : Nat} (hl : off + new.length ≤ cs.length) :
    RC F φ (splice cs off new) ((D.zipIdx).foldl (fun cs (c : Value × Nat) => cs.setIfInBounds (off + c.2) c.1) C) := by
  have e : (D.zipIdx).foldl (fun cs (c : Value × Nat) => cs.setIfInBounds (off + c.2) c.1) C = (D.toList.zipIdx).foldl (fun cs (c : Value × Nat) => cs.setIfInBounds (off + c.2) c.1) C := by
    rw [← Array.foldl_toList, Array.toList_zipIdx]
  rw [e]
  refine ⟨by rw [fold_set_size, splice_length _ _ _ hl, h.1], fun j c hc => ?_⟩
  rw [splice_get _ _ _ hl] at hc
  have hg := fold_set off D.toList 0 C j
  split at hc
  · rename_i hj
    obtain ⟨h1, v, hv, hr⟩ := g.2 _ c hc
    refine ⟨h1, v, ?_, hr⟩
    rw [hg, if_pos (by have := g.1; have := h.1; simp; omega)]
    simpa using hv
  · rename_i hj
    obtain ⟨h1, v, hv, hr⟩ := h.2 _ c hc
    refine ⟨h1, v, ?_, hr⟩
    rw [hg, if_neg (by have := g.1; simp; omega)]
    exact hv

theorem fillS_ok {P : Program} {T : Tab} (hT : TOk P T) {F : FM} {φ : PM} {fs : List (Nat × Nat)} {places : List (Nat × Nat)} {z : Nat}
    (hp : ∀ (i off t : Nat) (ti : TI), fs[i]? = some (off, t) → T t = some ti → places[i]? = some (off, ti.size)) :
    ∀ (ps : List (Nat × PV)) (vs : List (Nat × Value)) (cells out : List PV) (C : Array Value),
      ps.length = vs.length → (∀ (j : Nat) (p : Nat × PV) (v : Nat × Value), ps[j]? = some p → vs[j]? = some v → p.1 = v.1 ∧ Rep F φ p.2 v.2) → cells.length = z → RC F φ cells C →
      fillS T fs z ps cells = some out → ∃ D, Instr.fill (places.toArray[·]?) C vs = some D ∧ RC F φ out D
  | [], [], cells, out, C, _, _, _, hc, h => by
    simp only [fillS, Option.some.injEq] at h
    subst h
    exact ⟨C, rfl, hc⟩
  | (i, x) :: ps, (i', v) :: vs, cells, out, C, hl, hr, hz, hc, h => by
    obtain ⟨e1, e2⟩ := hr 0 (i, x) (i', v) rfl rfl
    simp only [] at e1 e2
    subst e1
    unfold fillS at h
    cases hf : fs[i]? with
    | none => rw [hf] at h; cases h
    | some q =>
      obtain ⟨off, t⟩ := q
      rw [hf] at h
      simp only [] at h
      cases ht : T t with
      | none => rw [ht] at h; cases h
      | some ti =>
        rw [ht] at h
        simp only [] at h
        split at h
        · rename_i hh
          obtain ⟨h1, h2, h3⟩ := hh
          obtain ⟨g1, g2⟩ := flat_cells e2 h3
          have hpl := hp i off t ti hf ht
          have hlen : off + (cellsOf x).length ≤ cells.length := by omega
          obtain ⟨D, hD, hrc⟩ := fillS_ok hT hp ps vs _ out _ (by simpa using hl) (fun j p v h4 h5 => hr (j + 1) p v h4 h5) (by rw [splice_length _ _ _ hlen]; exact hz) (hc.splice ⟨g1, g2⟩ hlen) h
          refine ⟨D, ?_, hrc⟩
          unfold Instr.fill
          have : places.toArray[i]? = some (off, ti.size) := by simpa using hpl
          simp only [this]
          rw [if_neg (by have := hc.1; simp; omega)]
          exact hD
        · cases h
  | [], _ :: _, _, _, _, hl, _, _, _, _ => by simp at hl
  | _ :: _, [], _, _, _, hl, _, _, _, _ => by simp at hl

end Go.GL
