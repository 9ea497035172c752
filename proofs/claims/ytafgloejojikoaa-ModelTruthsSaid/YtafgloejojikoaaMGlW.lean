/-
  GL, part W: stores.
-/
import Derived.Test.YtafgloejojikoaaMGlV
set_option linter.unusedSimpArgs false
set_option linter.unusedVariables false
/-! GL, part W: stores. -/
namespace Go.GL

theorem oneCell_iff (v : Value) : v.oneCell' = oneV v := by cases v <;> rfl

section
variable {P : Program} {T : Tab} {F : FM} {φ : PM} {S : Heap} {w : World}

/-- Cells put into a row of memory. -/
def putRow (C : Array Value) (o : Nat) (D : Array Value) : Array Value := (C.toList.take o ++ D.toList ++ C.toList.drop (o + D.size)).toArray

theorem putRow_size (C D : Array Value) (o : Nat) (h : o + D.size ≤ C.size) : (putRow C o D).size = C.size := by
  unfold putRow; simp; omega

theorem putRow_get (C D : Array Value) (o : Nat) (h : o + D.size ≤ C.size) (i : Nat) : (putRow C o D)[i]? = if o ≤ i ∧ i < o + D.size then D[i - o]? else C[i]? := by
  unfold putRow
  rw [List.getElem?_toArray]
  by_cases h1 : i < o
  · rw [if_neg (by omega), List.append_assoc, List.getElem?_append_left (by simp; omega), List.getElem?_take_of_lt h1]
    simp
  · rw [List.append_assoc, List.getElem?_append_right (by simp; omega)]
    have e : i - (List.take o C.toList).length = i - o := by simp; omega
    rw [e]
    by_cases h2 : i < o + D.size
    · rw [if_pos (by omega), List.getElem?_append_left (by simp; omega)]
      simp
    · rw [if_neg (by omega), List.getElem?_append_right (by simp; omega), List.getElem?_drop]
      rw [show o + D.size + (i - o - D.toList.length) = i by simp; omega]
      simp

theorem run_storeAt (hT : TOk P T) {t : Nat} {ti : TI} (ht : T t = some ti) {b o : Nat} {C : Array Value} {tt : TypeId} {v : Value} (hg : w.heap[b]? = some (.cells C tt (0, 0)))
    (hs : v.cells.size = ti.size) (ho : o + ti.size ≤ C.size) (h1 : ∀ u ∈ v.cells.toList, u.oneCell' = true) :
    (Instr.storeAt t (.pointer (some ⟨b, o, none⟩)) v).run P w = .ok () (w.setRow b (putRow C o v.cells)) := by
  have hz := hT.run_size ht w
  have hst := run_storeCells_at P b o tt v.cells.toList 0 C w hg (by simp; omega) h1
  simp only [Nat.add_zero, Array.length_toList] at hst
  simp only [Instr.storeAt, Instr.sureAddr, Sem.run_bind, Sem.run_pure, Result.andThen_ok, storeVar, hz]
  rw [if_neg (by simp [hs])]
  simpa [putRow] using hst

theorem one_of_cells {p : PV} {v : Value} (h : Rep F φ p v) (hf : flat p = true) : ∀ u ∈ v.cells.toList, u.oneCell' = true := by
  intro u hu
  obtain ⟨g1, g2⟩ := flat_cells h hf
  obtain ⟨j, hj⟩ := List.getElem?_of_mem hu
  have hj' : v.cells[j]? = some u := by simpa using hj
  have hlt : j < (cellsOf p).length := by
    have := (Array.getElem?_eq_some_iff.1 hj').1
    omega
  obtain ⟨h1, u', hu', hr⟩ := g2 j _ (List.getElem?_eq_getElem hlt)
  rw [hj'] at hu'
  injection hu' with hu'
  subst hu'
  rw [oneCell_iff]
  exact hr.one_ h1

theorem storeS_ok (hT : TOk P T) (hI : Inv F φ S w) {wl t : Nat} {W : Nat → Prop} (hW : ∀ d, wl ≤ d ∨ d + 1 = S.length → W d) {a x : PV} {va vx : Value} (ha : Rep F φ a va) (hx : Rep F φ x vx) {S' : Heap} (h : storeS T wl t a x S = some S') :
    ∃ w', (Instr.storeAt t va vx).run P w = .ok () w' ∧ Adv W F φ S w F φ S' w' ∧ Inv F φ S' w' := by
  unfold storeS at h
  cases ht : T t with
  | none => rw [ht] at h; cases h
  | some ti =>
    rw [ht] at h
    simp only [] at h
    split at h
    · cases h
    · rename_i hlf
      have hlen : (cellsOf x).length = ti.size := by
        rcases Nat.decEq (cellsOf x).length ti.size with e | e
        · exact absurd (.inl e) hlf
        · exact e
      have hflat : flat x = true := by
        cases hx : flat x with
        | true => rfl
        | false => exact absurd (.inr hx) hlf
      have h1 := one_of_cells hx hflat
      split at h
      · rename_i d k off
        split at h
        · rename_i hw
          obtain ⟨hw, hin⟩ := hw
          replace hw := hW _ hw
          cases hB : atS S d k with
          | none => rw [hB] at h; cases h
          | some B =>
            rw [hB] at h
            cases B with
            | box cs =>
              simp only [] at h
              split at h
              · rename_i hle
                injection h with h
                subst h
                cases ha with
                | data p v hl h => simp [isLeaf] at hl
                | ptr d k off b S0 hp =>
                obtain ⟨b', C, tt, g1, g2, g3, g4, g5⟩ := hI.blk d k _ hB
                rw [g1] at hp
                injection hp with hp
                simp only [Prod.mk.injEq] at hp
                obtain ⟨rfl, _, _⟩ := hp
                obtain ⟨c1, c2⟩ := flat_cells (hx.upto hin) hflat
                have hsz : vx.cells.size = ti.size := by omega
                refine ⟨_, run_storeAt hT ht g2 hsz (by omega) h1, ?_⟩
                have hps := putRow_size C vx.cells off (by omega)
                refine hI.write hB (by simp [blkAt, g1]) hw (setS_length _ _ _ _) (atS_setS hB _) (by simp) (by simp [blkAt, g1]) ?_ (fun _ _ _ e => by cases e)
                refine ⟨b', putRow C off vx.cells, tt, by rw [hps]; exact g1, setRow_heap w b' C _ tt _ g2, by rw [hps, splice_length _ _ _ (by omega)]; exact g3, fun j c hc => ?_, g5⟩
                rw [splice_get _ _ _ (by omega)] at hc
                rw [putRow_get C vx.cells off (by omega)]
                split at hc
                · rename_i hj
                  rw [if_pos (by omega)]
                  exact c2 _ c hc
                · rename_i hj
                  rw [if_neg (by omega)]
                  exact g4 _ c hc
              · cases h
            | _ => cases h
        · cases h
      · rename_i d k n i off
        split at h
        · rename_i hw
          obtain ⟨hw, hdat⟩ := hw
          replace hw := hW _ hw
          cases hB : atS S d k with
          | none => rw [hB] at h; cases h
          | some B =>
            rw [hB] at h
            cases B with
            | arr live sz xs =>
              cases live with
              | false => cases h
              | true =>
                simp only [] at h
                split at h
                · rename_i hh
                  obtain ⟨rfl, hoff, hi⟩ := hh
                  -- the element's new value
                  have key : ∃ y old, xs[i]? = some old ∧ S' = setS S d k (.arr true sz (xs.set i y)) ∧ cellsOf y = splice (cellsOf old) off (cellsOf x) := by
                    split at h
                    · rename_i hs
                      obtain ⟨_, rfl, rfl⟩ := hs
                      injection h with h
                      refine ⟨x, xs[i], List.getElem?_eq_getElem hi, h.symm, ?_⟩
                      obtain ⟨_, _, _, _, _, _, g4, _⟩ := hI.blk d k _ hB
                      have hl0 := g4 xs[i] (List.getElem_mem hi)
                      have hti := (hT.ok t ti ht).2.2.2
                      unfold splice
                      rw [List.take_zero, List.nil_append, List.drop_eq_nil_of_le (by omega), List.append_nil]
                    · split at h
                      · rename_i cs hcs
                        injection h with h
                        exact ⟨_, _, hcs, h.symm, rfl⟩
                      · cases h
                  obtain ⟨y, old, hold, rfl, hy⟩ := key
                  cases ha with
                  | data p v hl h => simp [isLeaf] at hl
                  | eptr d k n i off b S0 sz0 hp hz =>
                  obtain ⟨b', C, tt, g1, g2, g3, g4, g5, g6⟩ := hI.blk d k _ hB
                  rw [g1] at hp
                  injection hp with hp
                  simp only [Prod.mk.injEq] at hp
                  obtain ⟨rfl, _, rfl⟩ := hp
                  obtain ⟨c1, c2⟩ := flat_cells hx hflat
                  have hdc : ∀ (j : Nat) (c : PV), (cellsOf x)[j]? = some c → isData c = true := by
                    intro j c hc
                    have hm := List.mem_of_getElem? hc
                    cases x with
                    | agg cs =>
                      simp only [isData, isDataL_iff] at hdat
                      exact hdat c hm
                    | _ => simp only [cellsOf, List.mem_singleton] at hm; subst hm; exact hdat
                  have holen := g4 old (List.mem_of_getElem? hold)
                  have hsz : vx.cells.size = ti.size := by omega
                  have hrow : i * sz + sz ≤ C.size := by
                    have : (i + 1) * sz ≤ xs.length * sz := Nat.mul_le_mul_right _ hi
                    rw [Nat.add_mul] at this
                    omega
                  refine ⟨_, run_storeAt hT ht g2 hsz (by omega) h1, ?_⟩
                  have hps := putRow_size C vx.cells (i * sz + off) (by omega)
                  have hsl : (cellsOf y).length = sz := by rw [hy, splice_length _ _ _ (by omega)]; exact holen
                  refine hI.write hB (by simp [blkAt, g1]) hw (setS_length _ _ _ _) (atS_setS hB _) (by simp) (by simp [blkAt, g1]) ?_ (fun live' sz' xs' e n x hx => by
                    injection e with _ _ e
                    rw [← e, List.length_set]
                    exact hI.top _ _ _ _ _ _ _ hB hx)
                  refine ⟨b', putRow C (i * sz + off) vx.cells, tt, by rw [hps, List.length_set]; exact g1, setRow_heap w b' C _ tt _ g2, by rw [hps, List.length_set]; exact g3, fun z hz' => ?_, fun i' z j c hz' hc => ?_, g6⟩
                  · rcases List.mem_or_eq_of_mem_set hz' with h' | h'
                    · exact g4 z h'
                    · rw [h']; exact hsl
                  · rw [putRow_get C vx.cells _ (by omega)]
                    rw [List.getElem?_set] at hz'
                    split at hz'
                    · rename_i hii
                      subst hii
                      first | (rw [if_pos hi] at hz'; injection hz' with hz') | injection hz' with hz'
                      subst hz'
                      rw [hy, splice_get _ _ _ (by omega)] at hc
                      split at hc
                      · rename_i hj
                        rw [if_pos (by omega), show i * sz + j - (i * sz + off) = j - off by omega]
                        obtain ⟨e1, u, e2, e3⟩ := c2 _ c hc
                        exact ⟨e1, u, e2, e3.data_of (hdc _ c hc)⟩
                      · rename_i hj
                        rw [if_neg (by omega)]
                        exact g5 i old j c hold hc
                    · rename_i hii
                      have hjl : j < sz := by
                        have := (List.getElem?_eq_some_iff.1 hc).1
                        rw [g4 z (List.mem_of_getElem? hz')] at this
                        exact this
                      have hne : ¬ (i * sz + off ≤ i' * sz + j ∧ i' * sz + j < i * sz + off + vx.cells.size) := by
                        rintro ⟨e1, e2⟩
                        rcases Nat.lt_or_gt_of_ne hii with hlt | hgt
                        · have : (i + 1) * sz ≤ i' * sz := Nat.mul_le_mul_right _ hlt
                          rw [Nat.add_mul] at this
                          omega
                        · have : (i' + 1) * sz ≤ i * sz := Nat.mul_le_mul_right _ hgt
                          rw [Nat.add_mul] at this
                          omega
                      rw [if_neg hne]
                      exact g5 i' z j c hz' hc
                · cases h
            | _ => cases h
        · cases h
      · cases h

theorem storeS_one (hT : TOk P T) (hI : Inv F φ S w) {wl t : Nat} {d k off : Nat} {x : PV} {va vx : Value} {S' : Heap} (h : storeS T wl t (.ptr d k off) x S = some S') {b S0 : Nat} (hp : φ d k 0 = some (b, S0, 0)) {w' : World}
    (hrx : Rep F φ x vx) (hr : (Instr.storeAt t va vx).run P w = .ok () w') (hva : va = .pointer (some ⟨b, off, none⟩)) : ∀ i, i ≠ b → w'.heap[i]? = w.heap[i]? := by
  unfold storeS at h
  cases ht : T t with
  | none => rw [ht] at h; cases h
  | some ti =>
    rw [ht] at h
    simp only [] at h
    split at h
    · cases h
    · rename_i hlf
      have hlen : (cellsOf x).length = ti.size := by
        rcases Nat.decEq (cellsOf x).length ti.size with e | e
        · exact absurd (.inl e) hlf
        · exact e
      have hflat : flat x = true := by
        cases hx : flat x with
        | true => rfl
        | false => exact absurd (.inr hx) hlf
      have h1 := one_of_cells hrx hflat
      split at h
      · rename_i hw
        cases hB : atS S d k with
        | none => rw [hB] at h; cases h
        | some B =>
          rw [hB] at h
          cases B with
          | box cs =>
            simp only [] at h
            split at h
            · rename_i hle
              obtain ⟨b', C, tt, g1, g2, g3, g4, g5⟩ := hI.blk d k _ hB
              rw [g1] at hp
              injection hp with hp
              simp only [Prod.mk.injEq] at hp
              obtain ⟨rfl, _, _⟩ := hp
              obtain ⟨c1, c2⟩ := flat_cells (hrx.upto hw.2) hflat
              have hsz : vx.cells.size = ti.size := by omega
              have := run_storeAt (P := P) hT ht g2 hsz (by omega : off + ti.size ≤ C.size) h1
              rw [hva, this] at hr
              injection hr with _ hr
              intro i hi
              rw [← hr]
              show (w.heap.modify b' _)[i]? = _
              rw [Array.getElem?_modify, if_neg (fun e => hi e.symm)]
            · cases h
          | _ => cases h
      · cases h

end
end Go.GL
