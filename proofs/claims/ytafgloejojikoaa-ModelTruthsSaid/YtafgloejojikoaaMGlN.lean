/-
  GL, part N: new blocks and stores: the abstract heap goes along.
-/
import Derived.Test.YtafgloejojikoaaMGlO
set_option linter.unusedSimpArgs false
set_option linter.unusedVariables false
/-! GL, part N: new blocks and stores: the abstract heap goes along. -/
namespace Go.GL

theorem Inv.upto_top {F : FM} {φ : PM} {S : Heap} {w : World} (h : Inv F φ S w) {d : Nat} (hd : S.length ≤ d + 1) : φ.upto d = φ := by
  funext d' k n
  unfold PM.upto
  split
  · rfl
  · rename_i hlt
    cases hx : φ d' k n with
    | none => rfl
    | some x =>
      obtain ⟨B, hB, _⟩ := h.new d' k n x hx
      have := atS_lt hB
      omega

theorem Inv.free_id {F : FM} {φ : PM} {S : Heap} {w : World} (h : Inv F φ S w) {d k : Nat} (hf : atS S d k = none ∨ atS S d k = some .gone) (n : Nat) : φ d k n = none := by
  cases hx : φ d k n with
  | none => rfl
  | some x =>
    obtain ⟨B, hB, hne⟩ := h.new d k n x hx
    rcases hf with hf | hf <;> rw [hf] at hB
    · cases hB
    · injection hB with hB; exact absurd hB.symm hne

/-- φ with one place more. -/
def PM.put (φ : PM) (d k n : Nat) (x : Nat × Nat × Nat) : PM := fun d' k' n' => if d' = d ∧ k' = k ∧ n' = n then some x else φ d' k' n'
theorem PM.put_self (φ : PM) (d k n : Nat) (x : Nat × Nat × Nat) : φ.put d k n x d k n = some x := by simp [PM.put]
theorem PM.le_put {φ : PM} {d k n : Nat} {x : Nat × Nat × Nat} (h : φ d k n = none) : PM.le φ (φ.put d k n x) := fun d' k' n' y e => by
  unfold PM.put
  split
  · rename_i hh; obtain ⟨rfl, rfl, rfl⟩ := hh; rw [h] at e; cases e
  · exact e
theorem PM.put_inv {φ : PM} {d k n : Nat} {x : Nat × Nat × Nat} {d' k' n' : Nat} {y} (h : φ.put d k n x d' k' n' = some y) : φ d' k' n' = some y ∨ (d' = d ∧ k' = k) := by
  unfold PM.put at h
  split at h
  · rename_i hh; exact .inr ⟨hh.1, hh.2.1⟩
  · exact .inl h

theorem alloc_size (w : World) (o : Obj) : (w.alloc o).heap.size = w.heap.size + 1 := by
  show (w.heap.push o).size = _
  simp
theorem alloc_heap (w : World) (o : Obj) (i : Nat) (h : i < w.heap.size) : (w.alloc o).heap[i]? = w.heap[i]? := by
  show (w.heap.push o)[i]? = _
  rw [Array.getElem?_push, if_neg (by omega)]
theorem alloc_new (w : World) (o : Obj) : (w.alloc o).heap[w.heap.size]? = some o := by
  show (w.heap.push o)[w.heap.size]? = _
  simp
theorem alloc_cell {w : World} {o : Obj} {b off : Nat} {v : Value} (h : w.cell? ⟨b, off, none⟩ = some v) : (w.alloc o).cell? ⟨b, off, none⟩ = some v := by
  have hb := World.block_lt_of_cell? w _ h
  unfold World.cell? at *
  simp only [alloc_heap w o b hb]
  exact h

/-- A new block that may be written; o: the object. -/
theorem Inv.makeO {F : FM} {φ : PM} {S S' : Heap} {w : World} (W : Nat → Prop) (h : Inv F φ S w) {d k n : Nat} {B : Blk} {o : Obj} {Z z : Nat}
    (hf : atS S d k = none ∨ atS S d k = some .gone) (hlen : S'.length = S.length)
    (hat : ∀ d' k', atS S' d' k' = if d' = d ∧ k' = k then some B else atS S d' k')
    (hg : B ≠ .gone) (hb : ∀ φ', φ' d k n = some (w.heap.size, Z, z) → blkAt φ' d k B = some w.heap.size)
    (hr : ∀ φ', PM.le φ φ' → φ' d k n = some (w.heap.size, Z, z) → (∀ o', F w.heap.size o' = none) → RepB F φ' (w.alloc o) d k B)
    (ht : ∀ live sz xs, B = .arr live sz xs → n = xs.length) :
    Adv W F φ S w F (φ.put d k n (w.heap.size, Z, z)) S' (w.alloc o) ∧ Inv F (φ.put d k n (w.heap.size, Z, z)) S' (w.alloc o) := by
  have hle := PM.le_put (φ := φ) (x := (w.heap.size, Z, z)) (h.free_id hf n)
  have hself := PM.put_self φ d k n (w.heap.size, Z, z)
  have hF0 : ∀ o', F w.heap.size o' = none := fun o' => by
    cases hx : F w.heap.size o' with
    | none => rfl
    | some v => exact absurd (h.flt hx) (Nat.lt_irrefl _)
  refine ⟨⟨FM.le.refl _, hle, hlen, rfl, rfl, rfl, by rw [alloc_size]; omega, fun i hi _ => ⟨alloc_heap w _ i hi, fun _ => rfl⟩, fun d' k' B' i h1 h2 h3 => ?_⟩, ?_⟩
  · rw [hat] at h1
    split at h1
    · rename_i hd
      obtain ⟨rfl, rfl⟩ := hd
      injection h1 with h1
      subst h1
      rw [hb _ hself] at h2
      injection h2 with h2
      omega
    · rename_i hd
      refine ⟨B', h1, ?_⟩
      unfold blkAt at *
      split at h2
      · obtain ⟨x, hx, rfl⟩ := Option.map_eq_some_iff.1 h2
        exact Option.map_eq_some_iff.2 ⟨x, (PM.put_inv hx).resolve_right hd, rfl⟩
      · obtain ⟨x, hx, rfl⟩ := Option.map_eq_some_iff.1 h2
        exact Option.map_eq_some_iff.2 ⟨x, (PM.put_inv hx).resolve_right hd, rfl⟩
      · obtain ⟨x, hx, rfl⟩ := Option.map_eq_some_iff.1 h2
        exact Option.map_eq_some_iff.2 ⟨x, (PM.put_inv hx).resolve_right hd, rfl⟩
      · cases h2
  · refine h.upd (FM.le.refl _) hle hat (fun d' k' n' x hx => PM.put_inv hx) (fun e => absurd e hg) (fun b o v e => alloc_cell (h.cell b o v e))
      (fun d' k' B' b _ h1 h2 => ⟨alloc_heap w _ b (h.lt h1 h2), h.free h1 h2⟩) (hr _ hle hself hF0) (fun b hb' d' k' B' _ h1 h2 => ?_) (fun live sz xs e n' x hx => ?_)
    · rw [hb _ hself] at hb'
      injection hb' with hb'
      subst hb'
      exact absurd (h.lt h1 h2) (Nat.lt_irrefl _)
    · unfold PM.put at hx
      split at hx
      · rename_i hh; rw [hh.2.2, ht live sz xs e]; exact Nat.le_refl _
      · rw [h.free_id hf] at hx; cases hx

/-- A new block that may be written. -/
theorem Inv.make {F : FM} {φ : PM} {S S' : Heap} {w : World} (W : Nat → Prop) (h : Inv F φ S w) {d k n : Nat} {B : Blk} {C : Array Value} {t : TypeId} {z : Nat}
    (hf : atS S d k = none ∨ atS S d k = some .gone) (hlen : S'.length = S.length)
    (hat : ∀ d' k', atS S' d' k' = if d' = d ∧ k' = k then some B else atS S d' k')
    (hg : B ≠ .gone) (hb : ∀ φ', φ' d k n = some (w.heap.size, C.size, z) → blkAt φ' d k B = some w.heap.size)
    (hr : ∀ φ', PM.le φ φ' → φ' d k n = some (w.heap.size, C.size, z) → (∀ o, F w.heap.size o = none) → RepB F φ' (w.alloc (.cells C t)) d k B)
    (ht : ∀ live sz xs, B = .arr live sz xs → n = xs.length) :
    Adv W F φ S w F (φ.put d k n (w.heap.size, C.size, z)) S' (w.alloc (.cells C t)) ∧ Inv F (φ.put d k n (w.heap.size, C.size, z)) S' (w.alloc (.cells C t)) :=
  h.makeO W hf hlen hat hg hb hr ht

/-- Cells that become known for ever: a new block that nobody writes. -/
theorem Inv.know {F : FM} {φ : PM} {S : Heap} {w : World} (W : Nat → Prop) (h : Inv F φ S w) (C : Array Value) (t : TypeId) :
    Adv W F φ S w (fun b o => if b = w.heap.size then C[o]? else F b o) φ S (w.alloc (.cells C t)) ∧ Inv (fun b o => if b = w.heap.size then C[o]? else F b o) φ S (w.alloc (.cells C t)) := by
  have hle : FM.le F (fun b o => if b = w.heap.size then C[o]? else F b o) := fun b o v e => by
    have := h.flt e
    show (if b = w.heap.size then _ else _) = _
    rw [if_neg (by omega)]
    exact e
  refine ⟨⟨hle, PM.le.refl _, rfl, rfl, rfl, rfl, by rw [alloc_size]; omega, fun i hi _ => ⟨alloc_heap w _ i hi, fun o => if_neg (by omega)⟩, fun d' k' B' i h1 h2 h3 => ⟨B', h1, h2⟩⟩,
    fun b o v e => ?_, h.new, fun d k B hB => ?_, h.sep, h.top⟩
  · split at e
    · rename_i hb
      subst hb
      unfold World.cell?
      simp only [alloc_new]
      simpa using e
    · exact alloc_cell (h.cell b o v e)
  · refine (h.blk d k B hB).keep hle (PM.le.refl _) fun b hb => ⟨alloc_heap w _ b (h.lt hB hb), fun o => ?_⟩
    have := h.lt hB hb
    show (if b = w.heap.size then _ else _) = _
    rw [if_neg (by omega)]
    exact h.free hB hb o

/-- A number is passed over. -/
theorem Inv.skip {F : FM} {φ : PM} {S S' : Heap} {w : World} (W : Nat → Prop) (h : Inv F φ S w) {d k : Nat} (hf : atS S d k = none ∨ atS S d k = some .gone) (hlen : S'.length = S.length)
    (hat : ∀ d' k', atS S' d' k' = if d' = d ∧ k' = k then some .gone else atS S d' k') : Adv W F φ S w F φ S' w ∧ Inv F φ S' w := by
  refine ⟨⟨FM.le.refl _, PM.le.refl _, hlen, rfl, rfl, rfl, Nat.le_refl _, fun _ _ _ => ⟨rfl, fun _ => rfl⟩, fun d' k' B' i h1 h2 _ => ?_⟩, ?_⟩
  · rw [hat] at h1
    split at h1
    · injection h1 with h1; subst h1; cases h2
    · exact ⟨B', h1, h2⟩
  · exact h.upd (FM.le.refl _) (PM.le.refl _) hat (fun _ _ _ _ e => .inl e) (fun _ n => h.free_id hf n) h.cell (fun d' k' B' b _ h1 h2 => ⟨rfl, h.free h1 h2⟩) trivial (fun b hb => by cases hb) (fun _ _ _ e => by cases e)

/-- Frames' tops. -/
theorem at_push (L : List Blk) (H : Heap) (B : Blk) (d' k' : Nat) : atS ((L ++ [B]) :: H) d' k' = if d' = H.length ∧ k' = L.length then some B else atS (L :: H) d' k' := by
  by_cases hd : d' = H.length
  · subst hd
    rw [atS_top, atS_top]
    by_cases hk : k' = L.length
    · subst hk; simp
    · simp only [hk, and_false, if_false]
      rcases Nat.lt_or_ge k' L.length with h | h
      · rw [List.getElem?_append_left h]
      · rw [List.getElem?_eq_none h, List.getElem?_eq_none (by simp; omega)]
  · rw [atS_cons hd, atS_cons hd]; simp [hd]
theorem at_free (L : List Blk) (H : Heap) : atS (L :: H) H.length L.length = none := by rw [atS_top]; simp
theorem at_set {L : List Blk} {H : Heap} {k : Nat} (hk : k < L.length) (B : Blk) (d' k' : Nat) : atS (L.set k B :: H) d' k' = if d' = H.length ∧ k' = k then some B else atS (L :: H) d' k' := by
  by_cases hd : d' = H.length
  · subst hd
    rw [atS_top, atS_top, List.getElem?_set]
    by_cases hkk : k' = k
    · subst hkk; simp [hk]
    · rw [if_neg (fun e => hkk e.symm)]; simp [hkk]
  · rw [atS_cons hd, atS_cons hd]; simp [hd]

/-- A box. -/
theorem Inv.make_box {F : FM} {φ : PM} {S S' : Heap} {w : World} (W : Nat → Prop) (h : Inv F φ S w) {d k : Nat} {cs : List PV} {C : Array Value} {t : TypeId}
    (hf : atS S d k = none ∨ atS S d k = some .gone) (hd : d + 1 = S.length) (hlen : S'.length = S.length)
    (hat : ∀ d' k', atS S' d' k' = if d' = d ∧ k' = k then some (.box cs) else atS S d' k')
    (hC : C.size = cs.length) (hc : ∀ (j : Nat) (c : PV), cs[j]? = some c → one c = true ∧ ∃ v, C[j]? = some v ∧ Rep F φ c v) :
    ∃ φ', Adv W F φ S w F φ' S' (w.alloc (.cells C t)) ∧ Inv F φ' S' (w.alloc (.cells C t)) ∧ Rep F φ' (.ptr d k 0) (.pointer (some ⟨w.heap.size, 0, none⟩)) := by
  obtain ⟨h1, h2⟩ := h.make (S' := S') (t := t) (n := 0) (C := C) (z := 0) (B := .box cs) W hf hlen hat (by simp) (fun φ' e => by simp [blkAt, e]) (fun φ' hle e hF0 =>
    ⟨w.heap.size, C, t, e, alloc_new _ _, hC.symm, fun j c hj => ⟨(hc j c hj).1, by
      obtain ⟨v, hv, hr⟩ := (hc j c hj).2
      rw [← h.upto_top (d := d) (by omega)] at hr
      exact ⟨v, hv, hr.mono (FM.le.refl _) (PM.upto_mono hle d)⟩⟩, hF0⟩) (fun _ _ _ e => by cases e)
  exact ⟨_, h1, h2, .ptr _ _ _ _ _ (PM.put_self _ _ _ _ _)⟩

/-- A row of the call's own. -/
theorem Inv.make_arr {F : FM} {φ : PM} {S S' : Heap} {w : World} (W : Nat → Prop) (h : Inv F φ S w) {d k : Nat} {xs : List PV} {sz cap : Nat} {C : Array Value} {t : TypeId}
    (hf : atS S d k = none ∨ atS S d k = some .gone) (hlen : S'.length = S.length)
    (hat : ∀ d' k', atS S' d' k' = if d' = d ∧ k' = k then some (.arr true sz xs) else atS S d' k')
    (hn : xs.length ≤ cap) (hC : cap * sz ≤ C.size) (hs : ∀ x ∈ xs, (cellsOf x).length = sz)
    (hc : ∀ (i : Nat) (x : PV) (j : Nat) (c : PV), xs[i]? = some x → (cellsOf x)[j]? = some c → one c = true ∧ ∃ v, C[i * sz + j]? = some v ∧ RepD F c v) :
    ∃ φ', Adv W F φ S w F φ' S' (w.alloc (.cells C t)) ∧ Inv F φ' S' (w.alloc (.cells C t)) ∧ Rep F φ' (.own d k xs.length sz) (.slice (some ⟨w.heap.size, 0, none⟩) xs.length cap) := by
  obtain ⟨h1, h2⟩ := h.make (S' := S') (t := t) (n := xs.length) (C := C) (z := sz) (B := .arr true sz xs) W hf hlen hat (by simp) (fun φ' e => by simp [blkAt, e]) (fun φ' hle e hF0 =>
    ⟨w.heap.size, C, t, e, alloc_new _ _, Nat.le_trans (Nat.mul_le_mul_right _ hn) hC, hs, hc, hF0⟩) (fun _ _ _ e => by injection e with _ _ e; rw [e])
  exact ⟨_, h1, h2, .own _ _ _ _ _ _ _ (PM.put_self _ _ _ _ _) hn hC⟩

/-! ### Stores -/
theorem setRow_cell {w : World} {g b o : Nat} {cs : Array Value} (h : b ≠ g) : (w.setRow g cs).cell? ⟨b, o, none⟩ = w.cell? ⟨b, o, none⟩ := by
  unfold World.cell?
  simp only [setRow_other w g b cs h]

/-- A block that may be written is written. -/
theorem Inv.write {F : FM} {φ : PM} {S S' : Heap} {w : World} {W : Nat → Prop} (h : Inv F φ S w) {d k : Nat} {B0 B : Blk} {b : Nat} {C : Array Value}
    (hB0 : atS S d k = some B0) (hb0 : blkAt φ d k B0 = some b) (hw : W d) (hlen : S'.length = S.length)
    (hat : ∀ d' k', atS S' d' k' = if d' = d ∧ k' = k then some B else atS S d' k')
    (hg : B ≠ .gone) (hb : blkAt φ d k B = some b) (hr : RepB F φ (w.setRow b C) d k B) (ht : ∀ live sz xs, B = .arr live sz xs → ∀ n x, φ d k n = some x → n ≤ xs.length) :
    Adv W F φ S w F φ S' (w.setRow b C) ∧ Inv F φ S' (w.setRow b C) := by
  have hne : ∀ d' k' B' b', ¬ (d' = d ∧ k' = k) → atS S d' k' = some B' → blkAt φ d' k' B' = some b' → b' ≠ b := fun d' k' B' b' hne h1 h2 e => by
    subst e
    exact hne (h.sep d k B0 d' k' B' b' hB0 h1 hb0 h2)
  refine ⟨⟨FM.le.refl _, PM.le.refl _, hlen, rfl, rfl, rfl, by simp, fun i hi hn => ⟨setRow_other w b i C (fun e => ?_), fun _ => rfl⟩, fun d' k' B' i h1 h2 h3 => ?_⟩, ?_⟩
  · subst e; exact hn d k B0 hB0 hb0 hw
  · rw [hat] at h1
    split at h1
    · rename_i hd
      obtain ⟨rfl, rfl⟩ := hd
      injection h1 with h1
      subst h1
      rw [hb] at h2
      exact ⟨B0, hB0, by rw [hb0]; exact h2⟩
    · exact ⟨B', h1, h2⟩
  · refine h.upd (FM.le.refl _) (PM.le.refl _) hat (fun _ _ _ _ e => .inl e) (fun e => absurd e hg) (fun b' o v e => ?_) (fun d' k' B' b' hd h1 h2 => ⟨setRow_other w b b' C (hne d' k' B' b' hd h1 h2), h.free h1 h2⟩) hr
      (fun b' hb' d' k' B' hd h1 h2 => ?_) ht
    · have : b' ≠ b := fun e' => by
        subst e'
        rw [h.free hB0 hb0] at e
        cases e
      rw [setRow_cell this]
      exact h.cell b' o v e
    · rw [hb] at hb'
      injection hb' with hb'
      subst hb'
      exact hne d' k' B' b hd h1 h2 rfl

end Go.GL
