/-
  GL, part O: the machine's reads, stores and new blocks, told of values by value.
-/
import Derived.Test.YtafgloejojikoaaMGlI
import Derived.Laws.CopyRow
import Derived.Laws.Cells
import Derived.Laws.Rows
import Derived.ChangeKeysEq
import Derived.Laws.StructEq
set_option linter.unusedSimpArgs false
set_option linter.unusedVariables false
/-! GL, part O: the machine's reads, stores and new blocks, told of values by value. -/
namespace Go.GL

/-! ### The table of types -/
def tdOf : TypeDesc → TD
  | .bool => .bool
  | .int k => .int k
  | .string => .str
  | .slice e => .slice e
  | .struct fs => .struct (fs.toList.map fun f => (f.offset, f.type))
  | .pointer e => .ptr e
  | .map k e => .map k e
  | .func .. => .func
  | .interface _ => .iface
  | _ => .other

mutual
/-- A zero value as the machine has it. -/
def zeroV : PV → Value
  | .bool b => .bool b
  | .int k n => .int k n
  | .str s => .string s
  | .lst _ _ => .slice none 0 0
  | .agg cs => .agg (zeroVL cs).toArray
  | .nilp => .pointer none
  | .nilIface => .nilIface
  | .nilFunc => .nilFunc
  | .nilm => .map none
  | _ => .nilFunc
def zeroVL : List PV → List Value
  | [] => []
  | p :: ps => zeroV p :: zeroVL ps
end
def zeroOk1 : PV → Bool
  | .bool _ | .int .. | .str _ | .nilp | .nilIface | .nilFunc | .nilm => true
  | .lst full xs => full && xs.isEmpty
  | _ => false
def zeroOk : PV → Bool
  | .agg cs => cs.all zeroOk1
  | p => zeroOk1 p

structure TOk (P : Program) (T : Tab) : Prop where
  info : ∀ t ti, T t = some ti → (P.info? t).map (fun i => (i.size, i.bytes, i.zero)) = some (ti.size, ti.bytes, some (zeroV ti.zero))
  und : ∀ t ti, T t = some ti → (P.underlying t).map tdOf = some ti.td
  cmp : ∀ t ti, T t = some ti → ti.cmp = true → P.stoodInHeld t = false ∧ P.eqGuardType P.depth t = false ∧ (P.fieldsOf t).toList.all (fun f => f.name != "_") = true
  ok : ∀ t ti, T t = some ti → ti.td ≠ .other ∧ zeroOk ti.zero = true ∧ (cellsOf ti.zero).length = ti.size ∧ 0 < ti.size

theorem zeroVL_get (cs : List PV) (j : Nat) : (zeroVL cs)[j]? = (cs[j]?).map zeroV := by
  induction cs generalizing j with
  | nil => simp [zeroVL]
  | cons p ps ih => cases j <;> simp [zeroVL, ih]
theorem zeroVL_length (cs : List PV) : (zeroVL cs).length = cs.length := by
  induction cs with
  | nil => rfl
  | cons p ps ih => simp [zeroVL, ih]

theorem rep_zero1 (F : FM) (φ : PM) {p : PV} (h : zeroOk1 p = true) : Rep F φ p (zeroV p) := by
  cases p with
  | bool b => exact .data _ _ rfl (.bool b)
  | int k n => exact .data _ _ rfl (.int k n)
  | str s => exact .data _ _ rfl (.str s)
  | lst full xs =>
    simp only [zeroOk1, Bool.and_eq_true, List.isEmpty_iff] at h
    obtain ⟨rfl, rfl⟩ := h
    exact .data _ _ rfl (.lst true [] none 0 0 0 0 (fun _ _ => .nilFunc) (by simp) (by simp) (by simp) (by simp) (by simp) (by simp) (by simp))
  | nilp => exact .nilp
  | nilIface => exact .data _ _ rfl .nilIface
  | nilFunc => exact .nilFunc
  | nilm => exact .nilm
  | _ => simp [zeroOk1] at h
theorem one_zero1 {p : PV} (h : zeroOk1 p = true) : one p = true := by
  cases p <;> first | rfl | simp [zeroOk1] at h
theorem rep_zero (F : FM) (φ : PM) {p : PV} (h : zeroOk p = true) : Rep F φ p (zeroV p) := by
  cases p with
  | agg cs =>
    simp only [zeroOk, List.all_eq_true] at h
    refine .agg cs _ (by simp [zeroVL_length]) (fun c hc => one_zero1 (h c hc)) fun j c v hc hv => ?_
    rw [List.getElem?_toArray, zeroVL_get, hc] at hv
    injection hv with hv
    subst hv
    exact rep_zero1 F φ (h c (List.mem_of_getElem? hc))
  | _ => exact rep_zero1 F φ h
theorem zeroOk_flat {p : PV} (h : zeroOk p = true) : p ≠ .junk ∧ ∀ l, p ≠ .tup l := by
  cases p with
  | junk => cases h
  | tup l => cases h
  | _ => exact ⟨by simp, by simp⟩

section
variable {P : Program} {T : Tab} (hT : TOk P T) {t : Nat} {ti : TI} (ht : T t = some ti)
include hT ht

theorem TOk.typeInfo_run : ∃ i, P.info? t = some i ∧ i.size = ti.size ∧ i.bytes = ti.bytes ∧ i.zero = some (zeroV ti.zero) := by
  have h := hT.info t ti ht
  obtain ⟨i, hi, he⟩ := Option.map_eq_some_iff.1 h
  simp only [Prod.mk.injEq] at he
  exact ⟨i, hi, he⟩
theorem TOk.run_info (w : World) : ∃ i, (typeInfo t).run P w = .ok i w ∧ i.size = ti.size ∧ i.bytes = ti.bytes ∧ i.zero = some (zeroV ti.zero) := by
  obtain ⟨i, hi, h⟩ := hT.typeInfo_run ht
  exact ⟨i, run_typeInfo w hi, h⟩
theorem TOk.run_size (w : World) : (sizeOf t).run P w = .ok ti.size w := by
  obtain ⟨i, hi, h, _⟩ := hT.run_info ht w
  simp [sizeOf, hi, h]
theorem TOk.run_zero (w : World) : (zeroValue t).run P w = .ok (zeroV ti.zero) w := by
  obtain ⟨i, hi, _, _, h⟩ := hT.run_info ht w
  simp [zeroValue, hi, h]
theorem TOk.und_run (w : World) : ∃ D, P.underlying t = some D ∧ (underlying t).run P w = .ok D w ∧ tdOf D = ti.td := by
  have h := hT.und t ti ht
  obtain ⟨D, hD, he⟩ := Option.map_eq_some_iff.1 h
  exact ⟨D, hD, run_underlying hD w, he⟩
theorem TOk.run_isAgg (w : World) : (isAgg t).run P w = .ok ti.td.isAgg w := by
  obtain ⟨D, hD, hr, he⟩ := hT.und_run ht w
  have hne := (hT.ok t ti ht).1
  rw [← he] at hne ⊢
  simp only [isAgg, Sem.run_bind, hr, Result.andThen_ok]
  cases D <;> first | rfl | (simp [tdOf] at hne)
end

theorem add_off (b o n : Nat) : (⟨b, o, none⟩ : Addr).add n = ⟨b, o + n, none⟩ := by unfold Addr.add; split <;> simp_all

/-! ### Reads -/
/-- Cells of memory that stand for values. -/
def CellsAt (F : FM) (φ : PM) (w : World) (b o : Nat) (cs : List PV) : Prop :=
  ∀ (j : Nat) (c : PV), cs[j]? = some c → one c = true ∧ ∃ v, w.cell? ⟨b, o + j, none⟩ = some v ∧ Rep F φ c v

theorem run_loadV {P : Program} {T : Tab} (hT : TOk P T) {t : Nat} {ti : TI} (ht : T t = some ti) {F : FM} {φ : PM} {w : World} {b o : Nat} {cs : List PV} (h : CellsAt F φ w b o cs)
    {off : Nat} {p : PV} (hl : loadV ti cs off = some p) : ∃ u, (loadVar t ⟨b, o + off, none⟩).run P w = .ok u w ∧ Rep F φ p u := by
  have ha := hT.run_isAgg ht w
  have hz := hT.run_size ht w
  unfold loadV at hl
  cases hag : ti.td.isAgg with
  | false =>
    simp only [hag, Bool.false_eq_true, if_false] at hl
    obtain ⟨h1, v, hv, hr⟩ := h off p hl
    refine ⟨v, ?_, hr⟩
    simp only [loadVar, Sem.run_bind, ha, hag, Result.andThen_ok, Bool.false_eq_true, if_false, run_load, hv]
  | true =>
    simp only [hag, if_true] at hl
    split at hl
    · rename_i hle
      injection hl with hl
      subst hl
      have hcs : ∀ (j : Nat), j < ti.size → ∃ v, w.cell? ⟨b, o + off + j, none⟩ = some v ∧ ∀ (c : PV), ((cs.drop off).take ti.size)[j]? = some c → one c = true ∧ Rep F φ c v := by
        intro j hj
        have hlt : off + j < cs.length := by omega
        obtain ⟨h1, v, hv, hr⟩ := h (off + j) cs[off + j] (List.getElem?_eq_getElem hlt)
        refine ⟨v, by rw [Nat.add_assoc]; exact hv, fun c hc => ?_⟩
        rw [List.getElem?_take_of_lt hj, List.getElem?_drop, List.getElem?_eq_getElem hlt] at hc
        injection hc with hc
        subst hc
        exact ⟨h1, hr⟩
      have hf : ∃ f : Nat → Value, ∀ (j : Nat), j < ti.size → w.cell? ⟨b, o + off + j, none⟩ = some (f j) ∧ ∀ (c : PV), ((cs.drop off).take ti.size)[j]? = some c → one c = true ∧ Rep F φ c (f j) := by
        refine ⟨fun j => if hj : j < ti.size then (hcs j hj).choose else .nilFunc, fun j hj => ?_⟩
        simp only [hj, dif_pos]
        exact (hcs j hj).choose_spec
      obtain ⟨f, hf⟩ := hf
      have hld := run_loadCells (P := P) w ⟨b, o + off, none⟩ ti.size f (fun j hj => by rw [add_off]; exact (hf j hj).1)
      refine ⟨.agg ((List.range ti.size).map f).toArray, ?_, ?_⟩
      · simp only [loadVar, Sem.run_bind, ha, hag, Result.andThen_ok, if_true, hz, hld, Sem.run_pure]
      · refine .agg _ _ (by simp; omega) (fun c hc => ?_) fun j c v hc hv => ?_
        · obtain ⟨j, hj⟩ := List.getElem?_of_mem hc
          have hj' : j < ti.size := by
            have := (List.getElem?_eq_some_iff.1 hj).1
            simp at this; omega
          exact ((hf j hj').2 c hj).1
        · have hj : j < ti.size := by
            have := (List.getElem?_eq_some_iff.1 hc).1
            simp at this; omega
          simp only [List.getElem?_toArray, List.getElem?_map, List.getElem?_range hj, Option.map_some, Option.some.injEq] at hv
          subst hv
          exact ((hf j hj).2 c hc).2
    · cases hl

theorem cellsAt_box {F : FM} {φ : PM} {S : Heap} {w : World} (h : Inv F φ S w) {d k : Nat} {cs : List PV} (hB : atS S d k = some (.box cs)) {b S0 : Nat} (hb : φ d k 0 = some (b, S0, 0)) :
    CellsAt F φ w b 0 cs := by
  obtain ⟨b', C, t, h1, h2, h3, h4, h5⟩ := h.blk d k _ hB
  rw [h1] at hb
  injection hb with hb
  simp only [Prod.mk.injEq] at hb
  obtain ⟨rfl, _⟩ := hb
  intro j c hc
  obtain ⟨h6, v, hv, hr⟩ := h4 j c hc
  exact ⟨h6, v, by simp [World.cell?, h2, hv], hr.mono (FM.le.refl _) (PM.upto_le φ d)⟩

theorem cellsAt_arr {F : FM} {φ : PM} {S : Heap} {w : World} (h : Inv F φ S w) {d k sz : Nat} {xs : List PV} (hB : atS S d k = some (.arr true sz xs)) {b S0 sz' : Nat} (hb : φ d k xs.length = some (b, S0, sz'))
    {i : Nat} {x : PV} (hx : xs[i]? = some x) : CellsAt F φ w b (i * sz') (cellsOf x) := by
  obtain ⟨b', C, t, h1, h2, h3, h4, h5, h6⟩ := h.blk d k _ hB
  rw [h1] at hb
  injection hb with hb
  simp only [Prod.mk.injEq] at hb
  obtain ⟨rfl, _, rfl⟩ := hb
  intro j c hc
  obtain ⟨h7, v, hv, hr⟩ := h5 i x j c hx hc
  exact ⟨h7, v, by simp [World.cell?, h2, hv], .of_data hr⟩

theorem cellsAt_rptr {F : FM} {φ : PM} {S : Heap} {w : World} (h : Inv F φ S w) {cs : List PV} {b o : Nat} {cv : Nat → Value} (h1 : ∀ c ∈ cs, one c = true)
    (hF : ∀ (j : Nat) (c : PV), cs[j]? = some c → F b (o + j) = some (cv j)) (hR : ∀ (j : Nat) (c : PV), cs[j]? = some c → RepD F c (cv j)) : CellsAt F φ w b o cs :=
  fun j c hc => ⟨h1 c (List.mem_of_getElem? hc), cv j, h.cell _ _ _ (hF j c hc), .of_data (hR j c hc)⟩

theorem loadP_ok {P : Program} {T : Tab} (hT : TOk P T) {t : Nat} {F : FM} {φ : PM} {S : Heap} {w : World} (h : Inv F φ S w) {a p : PV} {v : Value} (ha : Rep F φ a v)
    (hl : loadP T t a S = some p) : ∃ u, (Instr.loadAt t v).run P w = .ok u w ∧ Rep F φ p u := by
  unfold loadP at hl
  cases htt : T t with
  | none => rw [htt] at hl; cases hl
  | some ti =>
    rw [htt] at hl
    simp only [] at hl
    cases ha with
    | ptr d k off b S0 hp =>
      simp only [] at hl
      cases hB : atS S d k with
      | none => rw [hB] at hl; cases hl
      | some B =>
        rw [hB] at hl
        cases B with
        | box cs =>
          obtain ⟨u, hu, hr⟩ := run_loadV hT htt (cellsAt_box h hB hp) hl
          rw [Nat.zero_add] at hu
          exact ⟨u, by simp only [Instr.loadAt, Instr.sureAddr, Sem.run_bind, Sem.run_pure, Result.andThen_ok, hu], hr⟩
        | _ => cases hl
    | eptr d k n i off b S0 sz hp hz =>
      simp only [] at hl
      cases hB : atS S d k with
      | none => rw [hB] at hl; cases hl
      | some B =>
        rw [hB] at hl
        cases B with
        | arr live sz' xs =>
          cases live with
          | true =>
            simp only [] at hl
            split at hl
            · rename_i hn
              subst hn
              cases hx : xs[i]? with
              | none => rw [hx] at hl; cases hl
              | some x =>
                rw [hx] at hl
                obtain ⟨u, hu, hr⟩ := run_loadV hT htt (cellsAt_arr h hB hp hx) hl
                exact ⟨u, by simp only [Instr.loadAt, Instr.sureAddr, Sem.run_bind, Sem.run_pure, Result.andThen_ok, hu], hr⟩
            · cases hl
          | false => cases hl
        | _ => cases hl
    | rptr cs off b o cv h1 hF hR =>
      obtain ⟨u, hu, hr⟩ := run_loadV hT htt (cellsAt_rptr (φ := φ) h h1 hF hR) hl
      exact ⟨u, by simp only [Instr.loadAt, Instr.sureAddr, Sem.run_bind, Sem.run_pure, Result.andThen_ok, hu], hr⟩
    | data p v hl' hd => cases hd <;> first | cases hl | simp [isLeaf] at hl'
    | _ => cases hl

end Go.GL
