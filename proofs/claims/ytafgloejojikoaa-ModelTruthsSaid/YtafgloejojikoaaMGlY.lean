/-
  GL, part Y: operations that make memory.
-/
import Derived.Test.YtafgloejojikoaaMGlX
import Derived.IntWalk
set_option linter.unusedSimpArgs false
set_option linter.unusedVariables false
/-! GL, part Y: operations that make memory. -/
namespace Go.GL

section
variable {P : Program} {T : Tab} {F : FM} {φ : PM} {S S' : Heap} {w : World}

/-- Elements, and an array of their cells. -/
def RA (F : FM) (sz : Nat) (xs : List PV) (C : Array Value) : Prop :=
  C.size = xs.length * sz ∧ (∀ x ∈ xs, (cellsOf x).length = sz) ∧
  ∀ (i : Nat) (x : PV) (j : Nat) (c : PV), xs[i]? = some x → (cellsOf x)[j]? = some c → one c = true ∧ ∃ v, C[i * sz + j]? = some v ∧ RepD F c v

theorem data_cells {p : PV} (h : isData p = true) : flat p = true ∧ ∀ c ∈ cellsOf p, isData c = true := by
  cases p with
  | agg cs => simp only [isData, isDataL_iff] at h; exact ⟨rfl, h⟩
  | _ => first | (simp [isData] at h; done) | exact ⟨rfl, fun c hc => by simp only [cellsOf, List.mem_singleton] at hc; subst hc; exact h⟩

theorem RA.set {sz : Nat} {xs : List PV} {C : Array Value} (h : RA F sz xs C) {i : Nat} (hi : i < xs.length) {x : PV} {v : Value} (hx : Rep F φ x v) (hd : isData x = true) (hl : (cellsOf x).length = sz) :
    RA F sz (xs.set i x) ((v.cells.zipIdx).foldl (fun cs (c : Value × Nat) => cs.setIfInBounds (i * sz + c.2) c.1) C) := by
  obtain ⟨hf, hdc⟩ := data_cells hd
  obtain ⟨g1, g2⟩ := flat_cells hx hf
  have e : (v.cells.zipIdx).foldl (fun cs (c : Value × Nat) => cs.setIfInBounds (i * sz + c.2) c.1) C = (v.cells.toList.zipIdx).foldl (fun cs (c : Value × Nat) => cs.setIfInBounds (i * sz + c.2) c.1) C := by
    rw [← Array.foldl_toList, Array.toList_zipIdx]
  rw [e]
  have hrow : i * sz + sz ≤ C.size := by
    have : (i + 1) * sz ≤ xs.length * sz := Nat.mul_le_mul_right _ hi
    rw [Nat.add_mul] at this
    have := h.1
    omega
  refine ⟨by rw [fold_set_size, List.length_set]; exact h.1, fun z hz => ?_, fun i' z j c hz hc => ?_⟩
  · rcases List.mem_or_eq_of_mem_set hz with h' | h'
    · exact h.2.1 z h'
    · rw [h']; exact hl
  · rw [fold_set]
    simp only [Nat.add_zero, Nat.sub_zero, Array.length_toList]
    rw [List.getElem?_set] at hz
    split at hz
    · rename_i hii
      subst hii
      have hzx : z = x := by
        first | (rw [if_pos hi] at hz; injection hz with hz; exact hz.symm) | (injection hz with hz; exact hz.symm)
      subst hzx
      have hj := (List.getElem?_eq_some_iff.1 hc).1
      rw [if_pos (by omega), show i * sz + j - i * sz = j by omega]
      obtain ⟨e1, u, e2, e3⟩ := g2 j c hc
      exact ⟨e1, u, by simpa using e2, e3.data_of (hdc c (List.mem_of_getElem? hc))⟩
    · rename_i hii
      have hjl : j < sz := by
        have := (List.getElem?_eq_some_iff.1 hc).1
        rw [h.2.1 z (List.mem_of_getElem? hz)] at this
        exact this
      have hne : ¬ (i * sz ≤ i' * sz + j ∧ i' * sz + j < i * sz + v.cells.size ∧ i' * sz + j < C.size) := by
        rintro ⟨e1, e2, _⟩
        rcases Nat.lt_or_gt_of_ne hii with hlt | hgt
        · have : (i + 1) * sz ≤ i' * sz := Nat.mul_le_mul_right _ hlt
          rw [Nat.add_mul] at this
          omega
        · have : (i' + 1) * sz ≤ i * sz := Nat.mul_le_mul_right _ hgt
          rw [Nat.add_mul] at this
          omega
      rw [if_neg hne]
      exact h.2.2 i' z j c hz hc

theorem fillE_ok {sz len : Nat} : ∀ (ps : List (Nat × PV)) (vs : List (Nat × Value)) (xs ys : List PV) (C : Array Value),
    ps.length = vs.length → (∀ (j : Nat) (p : Nat × PV) (v : Nat × Value), ps[j]? = some p → vs[j]? = some v → p.1 = v.1 ∧ Rep F φ p.2 v.2) → xs.length = len → RA F sz xs C →
    fillE sz len ps xs = some ys → ∃ D, Instr.fill (fun i => some (i * sz, sz)) C vs = some D ∧ RA F sz ys D ∧ ys.length = len
  | [], [], xs, ys, C, _, _, hl, hc, h => by
    simp only [fillE, Option.some.injEq] at h
    subst h
    exact ⟨C, rfl, hc, hl⟩
  | (i, x) :: ps, (i', v) :: vs, xs, ys, C, hl, hr, hz, hc, h => by
    obtain ⟨e1, e2⟩ := hr 0 (i, x) (i', v) rfl rfl
    simp only [] at e1 e2
    subst e1
    unfold fillE at h
    split at h
    · rename_i hh
      obtain ⟨h1, h2, h3⟩ := hh
      have hcells := (flat_cells e2 (data_cells h3).1).1
      obtain ⟨D, hD, hra, hl'⟩ := fillE_ok ps vs _ ys _ (by simpa using hl) (fun j p v h4 h5 => hr (j + 1) p v h4 h5) (by rw [List.length_set]; exact hz) (hc.set (by omega) e2 h3 h2) h
      refine ⟨D, ?_, hra, hl'⟩
      unfold Instr.fill
      have hrow : i * sz + sz ≤ C.size := by
        have : (i + 1) * sz ≤ xs.length * sz := Nat.mul_le_mul_right _ (by omega)
        rw [Nat.add_mul] at this
        have := hc.1
        omega
      simp only []
      rw [if_neg (by simp; omega)]
      exact hD
    · cases h
  | [], _ :: _, _, _, _, hl, _, _, _, _ => by simp at hl
  | _ :: _, [], _, _, _, hl, _, _, _, _ => by simp at hl

/-- Zero elements. -/
theorem RA.zeros (hT : TOk P T) {e : Nat} {ei : TI} (he : T e = some ei) (hd : isData ei.zero = true) (n m : Nat) (hnm : n ≤ m) :
    ∃ C : Array Value, ((Array.range (m * ei.size)).map ((zeroV ei.zero).cells[· % (zeroV ei.zero).cells.size]!)) = C ∧ C.size = m * ei.size ∧
      (∀ x ∈ List.replicate n ei.zero, (cellsOf x).length = ei.size) ∧
      ∀ (i : Nat) (x : PV) (j : Nat) (c : PV), (List.replicate n ei.zero)[i]? = some x → (cellsOf x)[j]? = some c → one c = true ∧ ∃ v, C[i * ei.size + j]? = some v ∧ RepD F c v := by
  obtain ⟨_, hzok, hzl, hpos⟩ := hT.ok e ei he
  obtain ⟨fl1, fl2⟩ := zeroOk_flat hzok
  obtain ⟨g1, g2⟩ := (rep_zero F (fun _ _ _ => none) hzok).cells fl1 fl2
  refine ⟨_, rfl, by simp, fun x hx => ?_, fun i x j c hx hc => ?_⟩
  · rw [(List.mem_replicate.1 hx).2]; exact hzl
  · have hi : i < n := by
      have := (List.getElem?_eq_some_iff.1 hx).1
      simpa using this
    rw [List.getElem?_replicate, if_pos hi] at hx
    injection hx with hx
    subst hx
    obtain ⟨h1, v, hv, hr⟩ := g2 j c hc
    have hj : j < ei.size := by
      have := (List.getElem?_eq_some_iff.1 hc).1
      omega
    refine ⟨h1, v, ?_, hr.data_of ((data_cells hd).2 c (List.mem_of_getElem? hc))⟩
    have hlt : i * ei.size + j < m * ei.size := by
      have : (i + 1) * ei.size ≤ m * ei.size := Nat.mul_le_mul_right _ (by omega)
      rw [Nat.add_mul] at this
      omega
    have hsz : (zeroV ei.zero).cells.size = ei.size := by omega
    have hmod : (i * ei.size + j) % ei.size = j := by rw [Nat.mul_comm, Nat.mul_add_mod]; exact Nat.mod_eq_of_lt hj
    rw [Array.getElem?_map, Array.getElem?_range, if_pos hlt]
    simp only [Option.map_some, hsz, hmod, Option.some.injEq]
    rw [getElem!_def, hv]

theorem RA.rep {sz : Nat} {xs : List PV} {D : Array Value} {F' : FM} {b : Nat} (h : RA F sz xs D) (hle : FM.le F F') (hF : ∀ o v, D[o]? = some v → F' b o = some v) (full : Bool) (cap : Nat) (hc : xs.length ≤ cap) (hf : full = true → cap = xs.length) :
    RepD F' (.lst full xs) (.slice (some ⟨b, 0, none⟩) xs.length cap) :=
  .lst full xs _ b 0 cap sz (fun i j => (D[i * sz + j]?).getD .nilFunc) hc hf (fun _ => rfl) h.2.1
    (fun x hx c hcc => by
      obtain ⟨i, hi⟩ := List.getElem?_of_mem hx
      obtain ⟨j, hj⟩ := List.getElem?_of_mem hcc
      exact (h.2.2 i x j c hi hj).1)
    (fun i x j c hx hcc => by
      obtain ⟨_, v, hv, _⟩ := h.2.2 i x j c hx hcc
      simp only [hv, Option.getD_some, Nat.zero_add]
      exact hF _ _ hv)
    (fun i x j c hx hcc => by
      obtain ⟨_, v, hv, hr⟩ := h.2.2 i x j c hx hcc
      simp only [hv, Option.getD_some]
      exact hr.mono hle)

theorem wrap64_id {n : Int} (h0 : 0 ≤ n) (h1 : n ≤ 140737488355328) : IntKind.i64.wrap n = n := IntWalk.i64_in n (by omega)

end
end Go.GL
