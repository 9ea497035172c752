/-
  GL, part Z: operations that make memory, all of them; append.
-/
import Derived.Test.YtafgloejojikoaaMGlY
set_option linter.unusedSimpArgs false
set_option linter.unusedVariables false
/-! GL, part Z: operations that make memory, all of them; append. -/
namespace Go.GL

section
variable {P : Program} {T : Tab} {F : FM} {φ : PM} {S S' : Heap} {w : World}

/-- What is made lies at a number that is free. -/
def Lays (S S' : Heap) (d k : Nat) (B : Blk) : Prop :=
  S'.length = S.length ∧ (atS S d k = none ∨ atS S d k = some .gone) ∧ ∀ d' k', atS S' d' k' = if d' = d ∧ k' = k then some B else atS S d' k'

def Made (P : Program) (W : Nat → Prop) (F : FM) (φ : PM) (S S' : Heap) (w : World) (x : Sem Value) (p : PV) : Prop :=
  ∃ u w' F' φ', x.run P w = .ok u w' ∧ Adv W F φ S w F' φ' S' w' ∧ Inv F' φ' S' w' ∧ Rep F' φ' p u

theorem alloc_eq (w : World) (o : Obj) : ({ w with heap := w.heap.push o } : World) = w.alloc o := rfl

theorem make_alloc (hT : TOk P T) (hI : Inv F φ S w) (W : Nat → Prop) {t : Nat} {ti : TI} (ht : T t = some ti) {d k : Nat} (hd : d + 1 = S.length) (hS : Lays S S' d k (.box (cellsOf ti.zero))) :
    Made P W F φ S S' w (Instr.alloc t true (.tuple #[])) (.ptr d k 0) := by
  obtain ⟨l1, l2, l3⟩ := hS
  obtain ⟨_, hzok, hzl, _⟩ := hT.ok t ti ht
  obtain ⟨fl1, fl2⟩ := zeroOk_flat hzok
  obtain ⟨g1, g2⟩ := (rep_zero F φ hzok).cells fl1 fl2
  obtain ⟨φ', h1, h2, h3⟩ := hI.make_box (t := t) W l2 hd l1 l3 g1 g2
  exact ⟨_, _, F, φ', by simp [Instr.alloc, hT.run_zero ht w, newVar, newRow], h1, h2, h3⟩

theorem make_box' (hI : Inv F φ S w) (W : Nat → Prop) {t : Nat} {x : PV} {v : Value} (hx : Rep F φ x v) (hf : flat x = true) {d k : Nat} (hd : d + 1 = S.length) (hS : Lays S S' d k (.box (cellsOf x))) :
    Made P W F φ S S' w (Instr.box t v) (.ptr d k 0) := by
  obtain ⟨l1, l2, l3⟩ := hS
  obtain ⟨g1, g2⟩ := flat_cells hx hf
  obtain ⟨φ', h1, h2, h3⟩ := hI.make_box (t := t) W l2 hd l1 l3 g1 g2
  exact ⟨_, _, F, φ', by simp [Instr.box, newVar, newRow], h1, h2, h3⟩

theorem td_slice {t e : Nat} {ti : TI} (hT : TOk P T) (ht : T t = some ti) (htd : ti.td = .slice e) (w : World) : P.underlying t = some (.slice e) ∧ (underlying t).run P w = .ok (.slice e) w := by
  obtain ⟨D, hD, hr, hd⟩ := hT.und_run ht w
  have hD' : D = .slice e := by rw [htd] at hd; cases D <;> simp [tdOf] at hd; rw [hd]
  subst hD'
  exact ⟨hD, hr⟩

theorem make_slice (hT : TOk P T) (hI : Inv F φ S w) (W : Nat → Prop) {t e : Nat} {ti ei : TI} (ht : T t = some ti) (htd : ti.td = .slice e) (he : T e = some ei) {l c : Int} {kl kc : IntKind} (h0 : 0 ≤ l) (h1 : l ≤ c) (hb : 0 < ei.bytes) (hlim : c * ei.bytes ≤ lim)
    (hdat : isData ei.zero = true) {d k : Nat} (hS : Lays S S' d k (.arr true ei.size (List.replicate l.toNat ei.zero))) :
    Made P W F φ S S' w (Instr.makeSlice t (.int kl l) (.int kc c)) (.own d k l.toNat ei.size) := by
  obtain ⟨l1, l2, l3⟩ := hS
  obtain ⟨_, hr⟩ := td_slice hT ht htd w
  obtain ⟨i, hi, hsz, hby, _⟩ := hT.run_info he w
  have hzr := hT.run_zero he w
  have hsr := hT.run_size he w
  have hpos := (hT.ok e ei he).2.2.2
  have hcb : c ≤ 70368744177664 := by
    have : c * 1 ≤ c * ei.bytes := Int.mul_le_mul_of_nonneg_left (by omega) (by omega)
    simp only [lim] at hlim
    omega
  have wl1 : IntKind.i64.wrap l = l := wrap64_id h0 (by omega)
  have wl2 : IntKind.i64.wrap c = c := wrap64_id (by omega) (by omega)
  obtain ⟨C, hC, c1, c2, c3⟩ := RA.zeros (F := F) hT he hdat l.toNat c.toNat (by omega)
  obtain ⟨φ', a1, a2, a3⟩ := hI.make_arr (S' := S') (t := e) (xs := List.replicate l.toNat ei.zero) (sz := ei.size) (cap := c.toNat) (C := C) W l2 l1 l3 (by simp; omega) (by omega) c2 c3
  refine ⟨_, _, F, φ', ?_, a1, a2, by simpa using a3⟩
  have t1 : ¬ (c < 0 ∨ (281474976710656 : Int) < ei.bytes * c) := by
    simp only [lim] at hlim
    rw [Int.mul_comm]
    omega
  have hl0 : ¬ l < 0 := by omega
  have hcl : ¬ c < l := by omega
  simp [Instr.makeSlice, hr, hi, asInt, asIntOf, wl1, wl2, hby, hl0, hcl, newRow]
  rw [if_neg t1]
  simp only [hsr, Result.andThen_ok]
  by_cases hz : c.toNat * ei.size = 0
  · have hC0 : C = #[] := Array.eq_empty_of_size_eq_zero (by omega)
    have r0 : Array.range 0 = #[] := rfl
    rw [if_pos hz, hz, hC0, r0]
    simp
  · rw [if_neg hz, hzr]
    simp only [Result.andThen_ok]
    rw [hC]


theorem make_build (hT : TOk P T) (hI : Inv F φ S w) (W : Nat → Prop) {t e : Nat} {ti ei : TI} (ht : T t = some ti) (htd : ti.td = .slice e) (he : T e = some ei) {len : Nat} (hdat : isData ei.zero = true) (hlim : len * ei.size ≤ 16777216)
    {ps : List (Nat × PV)} {vs : Array (Nat × Value)} (hl : ps.length = vs.toList.length) (hr : ∀ (j : Nat) (p : Nat × PV) (v : Nat × Value), ps[j]? = some p → vs.toList[j]? = some v → p.1 = v.1 ∧ Rep F φ p.2 v.2)
    {xs : List PV} (h : fillE ei.size len ps (List.replicate len ei.zero) = some xs) {d k : Nat} (hS : Lays S S' d k .gone) :
    Made P W F φ S S' w (Instr.buildSlice t len vs) (.lst true xs) := by
  obtain ⟨l1, l2, l3⟩ := hS
  obtain ⟨_, hrun⟩ := td_slice hT ht htd w
  have hzr := hT.run_zero he w
  have hsr := hT.run_size he w
  obtain ⟨C, hC, c1, c2, c3⟩ := RA.zeros (F := F) hT he hdat len len (Nat.le_refl _)
  obtain ⟨D, hD, hra, hlen⟩ := fillE_ok (φ := φ) ps vs.toList _ xs C hl hr (by simp) ⟨by simp [c1], c2, c3⟩ h
  obtain ⟨a1, i1⟩ := hI.know W D e
  obtain ⟨a2, i2⟩ := i1.skip (S' := S') W l2 l1 l3
  refine ⟨.slice (some ⟨w.heap.size, 0, none⟩) len len, _, _, φ, ?_, a1.trans a2, i2, ?_⟩
  · have hn : ¬ (16777216 < len * ei.size) := by omega
    simp [Instr.buildSlice, hrun, hsr, hn, newRow]
    by_cases hz : len * ei.size = 0
    · have hC0 : C = #[] := Array.eq_empty_of_size_eq_zero (by omega)
      rw [if_pos hz]
      have r0 : Array.range 0 = #[] := rfl
      rw [hC0] at hD
      simp [hz, r0, hD]
    · rw [if_neg hz, hzr]
      simp only [Result.andThen_ok]
      rw [hC, hD]
      simp
  · have := hra.rep (b := w.heap.size) a1.fm (fun o v hv => by show (if _ then _ else _) = _; rw [if_pos rfl]; exact hv) true len (by omega) (fun _ => hlen.symm)
    rw [hlen] at this
    exact .data _ _ rfl this

/-! ### append -/
/-- The cells of a row, read. -/
theorem run_first {xs : List PV} {a : Option Addr} {b o cap sz : Nat} {cv : Nat → Nat → Value} (hI : Inv F φ S w)
    (ha : xs ≠ [] → a = some ⟨b, o, none⟩) (hs : ∀ x ∈ xs, (cellsOf x).length = sz) (h1 : ∀ x ∈ xs, ∀ c ∈ cellsOf x, one c = true)
    (hC : ∀ (i : Nat) (x : PV) (j : Nat) (c : PV), xs[i]? = some x → (cellsOf x)[j]? = some c → w.cell? ⟨b, o + i * sz + j, none⟩ = some (cv i j))
    (hR : ∀ (i : Nat) (x : PV) (j : Nat) (c : PV), xs[i]? = some x → (cellsOf x)[j]? = some c → RepD F c (cv i j)) :
    ∃ D, (Builtin.firstCells sz xs.length (.slice a xs.length cap)).run P w = .ok D w ∧ RA F sz xs D := by
  have hra : ∀ (f : Nat → Value), (∀ m, m < xs.length * sz → w.cell? ⟨b, o + m, none⟩ = some (f m)) → RA F sz xs ((List.range (xs.length * sz)).map f).toArray := by
    intro f hf
    refine ⟨by simp, hs, fun i x j c hx hc => ⟨h1 x (List.mem_of_getElem? hx) c (List.mem_of_getElem? hc), cv i j, ?_, hR i x j c hx hc⟩⟩
    have hi := (List.getElem?_eq_some_iff.1 hx).1
    have hj := (List.getElem?_eq_some_iff.1 hc).1
    rw [hs x (List.mem_of_getElem? hx)] at hj
    have hlt : i * sz + j < xs.length * sz := by
      have : (i + 1) * sz ≤ xs.length * sz := Nat.mul_le_mul_right _ hi
      rw [Nat.add_mul] at this
      omega
    have h2 := hf _ hlt
    have h3 := hC i x j c hx hc
    rw [← Nat.add_assoc, h3] at h2
    simp [hlt, h2]
  have hcell : ∀ m, m < xs.length * sz → ∃ v, w.cell? ⟨b, o + m, none⟩ = some v := by
    intro m hm
    have hz : 0 < sz := by
      rcases Nat.eq_zero_or_pos sz with e | e
      · subst e; simp at hm
      · exact e
    have hi : m / sz < xs.length := (Nat.div_lt_iff_lt_mul hz).2 hm
    have hx : xs[m / sz]? = some xs[m / sz] := List.getElem?_eq_getElem hi
    have hj : m % sz < (cellsOf xs[m / sz]).length := by rw [hs _ (List.getElem_mem hi)]; exact Nat.mod_lt _ hz
    refine ⟨cv (m / sz) (m % sz), ?_⟩
    have := hC _ _ _ _ hx (List.getElem?_eq_getElem hj)
    rw [Nat.add_assoc, Nat.mul_comm, Nat.div_add_mod] at this
    exact this
  by_cases hne : xs = []
  · subst hne
    refine ⟨#[], ?_, by simp [RA]⟩
    cases a with
    | none => simp [Builtin.firstCells]
    | some a => simp [Builtin.firstCells, loadCells, loadCellsFrom]
  · have := ha hne
    subst this
    have hf : ∀ m, m < xs.length * sz → w.cell? ⟨b, o + m, none⟩ = some (if h : m < xs.length * sz then (hcell m h).choose else .nilFunc) := by
      intro m hm
      rw [dif_pos hm]
      exact (hcell m hm).choose_spec
    refine ⟨_, ?_, hra _ hf⟩
    have := run_loadCells (P := P) w ⟨b, o, none⟩ (xs.length * sz) _ (fun j hj => by rw [add_off]; exact hf j hj)
    simp only [Builtin.firstCells]
    exact this

/-- What is appended, read. -/
theorem rowOf_ok (hI : Inv F φ S w) {ei : TI} {p : PV} {v : Value} (hp : Rep F φ p v) {ys : List PV} (h : rowOf ei S p = some ys) :
    ∃ a cap D, v = .slice a ys.length cap ∧ (Builtin.firstCells ei.size ys.length v).run P w = .ok D w ∧ RA F ei.size ys D := by
  unfold rowOf at h
  split at h
  · rename_i full xs
    split at h
    · rename_i hall
      injection h with h
      subst h
      obtain ⟨a, b, o, cap, sz, cv, rfl, hc, hf, ha, hs, h1, hF, hR⟩ := rep_lst hp
      have hs' : ∀ x ∈ xs, (cellsOf x).length = ei.size := fun x hx => by simpa using List.all_eq_true.1 hall x hx
      have hF' : ∀ (i : Nat) (x : PV) (j : Nat) (c : PV), xs[i]? = some x → (cellsOf x)[j]? = some c → w.cell? ⟨b, o + i * ei.size + j, none⟩ = some (cv i j) := fun i x j c hx hcc => by
        have hm := List.mem_of_getElem? hx
        rw [← hs' x hm, hs x hm]
        exact hI.cell _ _ _ (hF i x j c hx hcc)
      obtain ⟨D, hD, hra⟩ := run_first (P := P) (cap := cap) hI ha hs' h1 hF' hR
      exact ⟨a, cap, D, rfl, hD, hra⟩
    · cases h
  · rename_i d k n sz0
    split at h
    · rename_i live sz xs hB
      split at h
      · rename_i hh
        obtain ⟨rfl, rfl⟩ := hh
        injection h with h
        subst h
        cases hp with
        | data p v hl h => simp [isLeaf] at hl
        | own d k n sz b S0 cap hp hn hS =>
        cases live with
        | true =>
          obtain ⟨b', C, t, g1, g2, g3, g4, g5, g6⟩ := hI.blk d k _ hB
          rw [g1] at hp
          injection hp with hp
          simp only [Prod.mk.injEq] at hp
          obtain ⟨rfl, _, _⟩ := hp
          obtain ⟨D, hD, hra⟩ := run_first (P := P) (F := F) (φ := φ) (xs := xs) (a := some ⟨b', 0, none⟩) (b := b') (o := 0) (cap := cap) (sz := ei.size) (cv := fun i j => (C[i * ei.size + j]?).getD .nilFunc) hI (fun _ => rfl) g4
            (fun x hx c hcc => by
              obtain ⟨i, hi⟩ := List.getElem?_of_mem hx
              obtain ⟨j, hj⟩ := List.getElem?_of_mem hcc
              exact (g5 i x j c hi hj).1)
            (fun i x j c hx hcc => by
              obtain ⟨_, v, hv, _⟩ := g5 i x j c hx hcc
              simp [World.cell?, g2, hv])
            (fun i x j c hx hcc => by
              obtain ⟨_, v, hv, hr⟩ := g5 i x j c hx hcc
              simp only [hv, Option.getD_some]
              exact hr)
          exact ⟨_, cap, D, rfl, hD, hra⟩
        | false =>
          obtain ⟨b', S1, cv, g1, g2, g3, g4, g5⟩ := hI.blk d k _ hB
          rw [g1] at hp
          injection hp with hp
          simp only [Prod.mk.injEq] at hp
          obtain ⟨rfl, _, _⟩ := hp
          obtain ⟨D, hD, hra⟩ := run_first (P := P) (F := F) (φ := φ) (xs := xs) (a := some ⟨b', 0, none⟩) (b := b') (o := 0) (cap := cap) (sz := ei.size) (cv := cv) hI (fun _ => rfl) g2 g3
            (fun i x j c hx hcc => by rw [Nat.zero_add]; exact hI.cell _ _ _ (g4 i x j c hx hcc)) g5
          exact ⟨_, cap, D, rfl, hD, hra⟩
      · cases h
    · cases h
  · cases h

end
end Go.GL
