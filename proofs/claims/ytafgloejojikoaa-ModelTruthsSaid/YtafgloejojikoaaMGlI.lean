/-
  GL, part I: what holds of the abstract heap and the world between two steps, and how it is carried on.
-/
import Derived.Test.YtafgloejojikoaaMGlR
set_option linter.unusedSimpArgs false
set_option linter.unusedVariables false
/-! GL, part I: what holds of the abstract heap and the world between two steps, and how it is carried on. -/
namespace Go.GL

/-! ### The abstract heap -/
theorem atS_lt {S : Heap} {d k : Nat} {B : Blk} (h : atS S d k = some B) : d < S.length := by
  induction S with
  | nil => cases h
  | cons L H ih =>
    unfold atS at h
    split at h
    · rename_i e; subst e; simp
    · have := ih h; simp; omega
theorem atS_top (L : List Blk) (H : Heap) (k : Nat) : atS (L :: H) H.length k = L[k]? := by simp [atS]
theorem atS_cons {L : List Blk} {H : Heap} {d k : Nat} (h : d ≠ H.length) : atS (L :: H) d k = atS H d k := by simp [atS, h]
theorem setS_length (S : Heap) (d k : Nat) (B : Blk) : (setS S d k B).length = S.length := by
  induction S with
  | nil => rfl
  | cons L H ih => unfold setS; split <;> simp [ih]
theorem atS_setS {S : Heap} {d k : Nat} {B0 : Blk} (h : atS S d k = some B0) (B : Blk) (d' k' : Nat) :
    atS (setS S d k B) d' k' = if d' = d ∧ k' = k then some B else atS S d' k' := by
  induction S with
  | nil => cases h
  | cons L H ih =>
    by_cases hd : d = H.length
    · subst hd
      rw [atS_top] at h
      have hk := (List.getElem?_eq_some_iff.1 h).1
      simp only [setS, if_true]
      by_cases hd' : d' = H.length
      · subst hd'
        rw [atS_top, atS_top, List.getElem?_set]
        by_cases hkk : k' = k
        · subst hkk; simp [hk]
        · rw [if_neg (fun e => hkk e.symm)]; simp [hkk]
      · rw [atS_cons hd', atS_cons hd']; simp [hd']
    · rw [atS_cons hd] at h
      simp only [setS, hd, if_false]
      by_cases hd' : d' = H.length
      · subst hd'
        have e1 : atS (L :: setS H d k B) H.length k' = L[k']? := by have := atS_top L (setS H d k B) k'; rwa [setS_length] at this
        rw [e1, atS_top, if_neg (fun e => hd e.1.symm)]
      · have e1 : atS (L :: setS H d k B) d' k' = atS (setS H d k B) d' k' := atS_cons (by rw [setS_length]; exact hd')
        rw [e1, ih h, atS_cons hd']

/-- Where a block that may be written lies. -/
def blkAt (φ : PM) (d k : Nat) : Blk → Option Nat
  | .box _ => (φ d k 0).map (·.1)
  | .arr true _ xs => (φ d k xs.length).map (·.1)
  | .mp _ _ => (φ d k 0).map (·.1)
  | _ => none

def RepB (F : FM) (φ : PM) (w : World) (d k : Nat) : Blk → Prop
  | .box cs => ∃ (b : Nat) (C : Array Value) (t : TypeId), φ d k 0 = some (b, C.size, 0) ∧ w.heap[b]? = some (.cells C t (0, 0)) ∧ cs.length = C.size ∧
      (∀ (j : Nat) (c : PV), cs[j]? = some c → one c = true ∧ ∃ v, C[j]? = some v ∧ Rep F (φ.upto d) c v) ∧ ∀ o, F b o = none
  | .arr true sz xs => ∃ (b : Nat) (C : Array Value) (t : TypeId), φ d k xs.length = some (b, C.size, sz) ∧ w.heap[b]? = some (.cells C t (0, 0)) ∧ xs.length * sz ≤ C.size ∧
      (∀ x ∈ xs, (cellsOf x).length = sz) ∧
      (∀ (i : Nat) (x : PV) (j : Nat) (c : PV), xs[i]? = some x → (cellsOf x)[j]? = some c → one c = true ∧ ∃ v, C[i * sz + j]? = some v ∧ RepD F c v) ∧ ∀ o, F b o = none
  | .arr false sz xs => ∃ (b S : Nat) (cv : Nat → Nat → Value), φ d k xs.length = some (b, S, sz) ∧ (∀ x ∈ xs, (cellsOf x).length = sz) ∧ (∀ x ∈ xs, ∀ c ∈ cellsOf x, one c = true) ∧
      (∀ (i : Nat) (x : PV) (j : Nat) (c : PV), xs[i]? = some x → (cellsOf x)[j]? = some c → F b (i * sz + j) = some (cv i j)) ∧
      (∀ (i : Nat) (x : PV) (j : Nat) (c : PV), xs[i]? = some x → (cellsOf x)[j]? = some c → RepD F c (cv i j))
  | .mp kd es => ∃ (b : Nat) (E : Array MapEntry) (c : Nat), φ d k 0 = some (b, 0, 0) ∧ w.heap[b]? = some (.map E c) ∧ E.size = es.length ∧
      (∀ (j : Nat) (x y : PV), es[j]? = some (x, y) → ∃ e, E[j]? = some e ∧ RepD F x e.key ∧ Rep F (φ.upto d) y e.val ∧ keyOk kd x = true) ∧ ∀ o, F b o = none
  | .gone => True

structure Inv (F : FM) (φ : PM) (S : Heap) (w : World) : Prop where
  cell : ∀ b o v, F b o = some v → w.cell? ⟨b, o, none⟩ = some v
  new : ∀ d k n x, φ d k n = some x → ∃ B, atS S d k = some B ∧ B ≠ .gone
  blk : ∀ d k B, atS S d k = some B → RepB F φ w d k B
  sep : ∀ d k B d' k' B' b, atS S d k = some B → atS S d' k' = some B' → blkAt φ d k B = some b → blkAt φ d' k' B' = some b → d' = d ∧ k' = k
  top : ∀ d k live sz xs n x, atS S d k = some (.arr live sz xs) → φ d k n = some x → n ≤ xs.length

/-- From one step to a later one: the stack is as high; what was known is known; no block has been written but those that may be. -/
structure Adv (W : Nat → Prop) (F : FM) (φ : PM) (S : Heap) (w : World) (F' : FM) (φ' : PM) (S' : Heap) (w' : World) : Prop where
  fm : FM.le F F'
  pm : PM.le φ φ'
  len : S'.length = S.length
  os : w'.os = w.os
  tape : w'.tape = w.tape
  output : w'.output = w.output
  size : w.heap.size ≤ w'.heap.size
  block : ∀ i, i < w.heap.size → (∀ d k B, atS S d k = some B → blkAt φ d k B = some i → ¬ W d) → w'.heap[i]? = w.heap[i]? ∧ ∀ o, F' i o = F i o
  old : ∀ d k B' i, atS S' d k = some B' → blkAt φ' d k B' = some i → i < w.heap.size → ∃ B, atS S d k = some B ∧ blkAt φ d k B = some i

theorem Adv.refl (W : Nat → Prop) (F : FM) (φ : PM) (S : Heap) (w : World) : Adv W F φ S w F φ S w :=
  ⟨FM.le.refl _, PM.le.refl _, rfl, rfl, rfl, rfl, Nat.le_refl _, fun _ _ _ => ⟨rfl, fun _ => rfl⟩, fun _ _ B _ h k _ => ⟨B, h, k⟩⟩

theorem Adv.trans {W : Nat → Prop} {F F1 F2 : FM} {φ φ1 φ2 : PM} {S S1 S2 : Heap} {w w1 w2 : World} (a : Adv W F φ S w F1 φ1 S1 w1) (b : Adv W F1 φ1 S1 w1 F2 φ2 S2 w2) :
    Adv W F φ S w F2 φ2 S2 w2 where
  fm := a.fm.trans b.fm
  pm := a.pm.trans b.pm
  len := b.len.trans a.len
  os := b.os.trans a.os
  tape := b.tape.trans a.tape
  output := b.output.trans a.output
  size := Nat.le_trans a.size b.size
  block := fun i hi hn => by
    obtain ⟨e1, e2⟩ := b.block i (Nat.lt_of_lt_of_le hi a.size) (fun d k B hB hb hw => by
      obtain ⟨B0, h0, h1⟩ := a.old d k B i hB hb hi
      exact hn d k B0 h0 h1 hw)
    obtain ⟨e3, e4⟩ := a.block i hi hn
    exact ⟨e1.trans e3, fun o => (e2 o).trans (e4 o)⟩
  old := fun d k B' i h1 h2 h3 => by
    obtain ⟨B1, h4, h5⟩ := b.old d k B' i h1 h2 (Nat.lt_of_lt_of_le h3 a.size)
    exact a.old d k B1 i h4 h5 h3

theorem blkAt_mono {φ ψ : PM} (h : PM.le φ ψ) {d k : Nat} {B : Blk} {b : Nat} (e : blkAt φ d k B = some b) : blkAt ψ d k B = some b := by
  unfold blkAt at *
  split at e
  · obtain ⟨x, hx, rfl⟩ := Option.map_eq_some_iff.1 e
    exact Option.map_eq_some_iff.2 ⟨x, h _ _ _ _ hx, rfl⟩
  · obtain ⟨x, hx, rfl⟩ := Option.map_eq_some_iff.1 e
    exact Option.map_eq_some_iff.2 ⟨x, h _ _ _ _ hx, rfl⟩
  · obtain ⟨x, hx, rfl⟩ := Option.map_eq_some_iff.1 e
    exact Option.map_eq_some_iff.2 ⟨x, h _ _ _ _ hx, rfl⟩
  · cases e

theorem Adv.weak {W W' : Nat → Prop} (hW : ∀ d, W d → W' d) {F F1 : FM} {φ φ1 : PM} {S S1 : Heap} {w w1 : World} (a : Adv W F φ S w F1 φ1 S1 w1) : Adv W' F φ S w F1 φ1 S1 w1 :=
  { a with block := fun i hi hn => a.block i hi fun d k B h1 h2 h3 => hn d k B h1 h2 (hW d h3) }

/-- A block's row stays true where its block, and what it knows, stay. -/
theorem RepB.keep {F F' : FM} {φ φ' : PM} {w w' : World} {d k : Nat} {B : Blk} (h : RepB F φ w d k B) (hF : FM.le F F') (hφ : PM.le φ φ')
    (hk : ∀ b, blkAt φ d k B = some b → w'.heap[b]? = w.heap[b]? ∧ ∀ o, F' b o = none) : RepB F' φ' w' d k B := by
  cases B with
  | box cs =>
    obtain ⟨b, C, t, h1, h2, h3, h4, h5⟩ := h
    obtain ⟨e1, e2⟩ := hk b (by simp [blkAt, h1])
    exact ⟨b, C, t, hφ _ _ _ _ h1, e1.trans h2, h3, fun j c hc => ⟨(h4 j c hc).1, by
      obtain ⟨v, hv, hr⟩ := (h4 j c hc).2
      exact ⟨v, hv, hr.mono hF (PM.upto_mono hφ d)⟩⟩, e2⟩
  | arr live sz xs =>
    cases live with
    | true =>
      obtain ⟨b, C, t, h1, h2, h3, h4, h5, h6⟩ := h
      obtain ⟨e1, e2⟩ := hk b (by simp [blkAt, h1])
      exact ⟨b, C, t, hφ _ _ _ _ h1, e1.trans h2, h3, h4, fun i x j c hx hc => ⟨(h5 i x j c hx hc).1, by
        obtain ⟨v, hv, hr⟩ := (h5 i x j c hx hc).2
        exact ⟨v, hv, hr.mono hF⟩⟩, e2⟩
    | false =>
      obtain ⟨b, S, cv, h1, h2, h3, h4, h5⟩ := h
      exact ⟨b, S, cv, hφ _ _ _ _ h1, h2, h3, fun i x j c hx hc => hF _ _ _ (h4 i x j c hx hc), fun i x j c hx hc => (h5 i x j c hx hc).mono hF⟩
  | mp kd es =>
    obtain ⟨b, E, c, h1, h2, h3, h4, h5⟩ := h
    obtain ⟨e1, e2⟩ := hk b (by simp [blkAt, h1])
    exact ⟨b, E, c, hφ _ _ _ _ h1, e1.trans h2, h3, fun j x y hj => by
      obtain ⟨e, he, hr, hs, hk0⟩ := h4 j x y hj
      exact ⟨e, he, hr.mono hF, hs.mono hF (PM.upto_mono hφ d), hk0⟩, e2⟩
  | gone => trivial

/-- One block of the abstract heap is laid anew. -/
theorem Inv.upd {F F' : FM} {φ φ' : PM} {S S' : Heap} {w w' : World} {d k : Nat} {B : Blk} (h : Inv F φ S w) (hF : FM.le F F') (hφ : PM.le φ φ')
    (hat : ∀ d' k', atS S' d' k' = if d' = d ∧ k' = k then some B else atS S d' k')
    (hnew : ∀ d' k' n x, φ' d' k' n = some x → φ d' k' n = some x ∨ (d' = d ∧ k' = k)) (hgone : B = .gone → ∀ n, φ' d k n = none)
    (hcell : ∀ b o v, F' b o = some v → w'.cell? ⟨b, o, none⟩ = some v)
    (hkeep : ∀ d' k' B' b, ¬ (d' = d ∧ k' = k) → atS S d' k' = some B' → blkAt φ d' k' B' = some b → w'.heap[b]? = w.heap[b]? ∧ ∀ o, F' b o = none)
    (hblk : RepB F' φ' w' d k B)
    (hsep : ∀ b, blkAt φ' d k B = some b → ∀ d' k' B', ¬ (d' = d ∧ k' = k) → atS S d' k' = some B' → blkAt φ d' k' B' ≠ some b)
    (htop : ∀ live sz xs, B = .arr live sz xs → ∀ n x, φ' d k n = some x → n ≤ xs.length) : Inv F' φ' S' w' := by
  have back : ∀ {d' k' : Nat} {B' : Blk} {b : Nat}, ¬ (d' = d ∧ k' = k) → blkAt φ' d' k' B' = some b → blkAt φ d' k' B' = some b := by
    intro d' k' B' b hne e
    unfold blkAt at *
    split at e
    · obtain ⟨x, hx, rfl⟩ := Option.map_eq_some_iff.1 e
      exact Option.map_eq_some_iff.2 ⟨x, (hnew _ _ _ _ hx).resolve_right hne, rfl⟩
    · obtain ⟨x, hx, rfl⟩ := Option.map_eq_some_iff.1 e
      exact Option.map_eq_some_iff.2 ⟨x, (hnew _ _ _ _ hx).resolve_right hne, rfl⟩
    · obtain ⟨x, hx, rfl⟩ := Option.map_eq_some_iff.1 e
      exact Option.map_eq_some_iff.2 ⟨x, (hnew _ _ _ _ hx).resolve_right hne, rfl⟩
    · cases e
  refine ⟨hcell, fun d' k' n x hx => ?_, fun d' k' B' hB' => ?_, fun d1 k1 B1 d2 k2 B2 b h1 h2 e1 e2 => ?_, fun d1 k1 live sz xs n x h1 e1 => ?_⟩
  · by_cases hd : d' = d ∧ k' = k
    · obtain ⟨rfl, rfl⟩ := hd
      refine ⟨B, by rw [hat]; simp, fun e => ?_⟩
      rw [hgone e n] at hx; cases hx
    · rcases hnew d' k' n x hx with e | e
      · obtain ⟨B', hB', hne⟩ := h.new d' k' n x e
        exact ⟨B', by rw [hat, if_neg hd]; exact hB', hne⟩
      · exact absurd e hd
  · rw [hat] at hB'
    split at hB'
    · rename_i hd
      obtain ⟨rfl, rfl⟩ := hd
      injection hB' with hB'
      subst hB'
      exact hblk
    · rename_i hd
      exact (h.blk d' k' B' hB').keep hF hφ (fun b hb => hkeep d' k' B' b hd hB' hb)
  · rw [hat] at h1 h2
    split at h1
    · rename_i hd1
      obtain ⟨rfl, rfl⟩ := hd1
      injection h1 with h1
      subst h1
      split at h2
      · rename_i hd2; exact hd2
      · rename_i hd2
        exact absurd (back hd2 e2) (hsep b e1 d2 k2 B2 hd2 h2)
    · rename_i hd1
      split at h2
      · rename_i hd2
        obtain ⟨rfl, rfl⟩ := hd2
        injection h2 with h2
        subst h2
        exact absurd (back hd1 e1) (hsep b e2 d1 k1 B1 hd1 h1)
      · rename_i hd2
        exact h.sep d1 k1 B1 d2 k2 B2 b h1 h2 (back hd1 e1) (back hd2 e2)
  · rw [hat] at h1
    split at h1
    · rename_i hd
      obtain ⟨rfl, rfl⟩ := hd
      injection h1 with h1
      exact htop live sz xs h1 n x e1
    · rename_i hd
      exact h.top d1 k1 live sz xs n x h1 ((hnew _ _ _ _ e1).resolve_right hd)

/-- A live block lies in the world. -/
theorem Inv.lt {F : FM} {φ : PM} {S : Heap} {w : World} (h : Inv F φ S w) {d k : Nat} {B : Blk} {b : Nat} (hB : atS S d k = some B) (hb : blkAt φ d k B = some b) : b < w.heap.size := by
  have hr := h.blk d k B hB
  cases B with
  | box cs =>
    obtain ⟨b', C, t, h1, h2, _⟩ := hr
    simp only [blkAt, h1, Option.map_some, Option.some.injEq] at hb
    subst hb
    exact (Array.getElem?_eq_some_iff.1 h2).1
  | arr live sz xs =>
    cases live with
    | true =>
      obtain ⟨b', C, t, h1, h2, _⟩ := hr
      simp only [blkAt, h1, Option.map_some, Option.some.injEq] at hb
      subst hb
      exact (Array.getElem?_eq_some_iff.1 h2).1
    | false => cases hb
  | mp kd es =>
    obtain ⟨b', E, c, h1, h2, _⟩ := hr
    simp only [blkAt, h1, Option.map_some, Option.some.injEq] at hb
    subst hb
    exact (Array.getElem?_eq_some_iff.1 h2).1
  | gone => cases hb

theorem Inv.flt {F : FM} {φ : PM} {S : Heap} {w : World} (h : Inv F φ S w) {b o : Nat} {v : Value} (e : F b o = some v) : b < w.heap.size :=
  World.block_lt_of_cell? w _ (h.cell b o v e)

/-- The world has changed nowhere (but in what was drawn). -/
theorem Inv.same {F : FM} {φ : PM} {S : Heap} {w w' : World} (h : Inv F φ S w) (hh : w'.heap = w.heap) : Inv F φ S w' :=
  ⟨fun b o v e => by have := h.cell b o v e; unfold World.cell? at *; rw [hh]; exact this, h.new,
    fun d k B hB => (h.blk d k B hB).keep (FM.le.refl _) (PM.le.refl _) (fun b hb => ⟨by rw [hh], by
      have hr := h.blk d k B hB
      cases B with
      | box cs => obtain ⟨b', C, t, h1, h2, h3, h4, h5⟩ := hr; simp only [blkAt, h1, Option.map_some, Option.some.injEq] at hb; subst hb; exact h5
      | arr live sz xs => cases live with
        | true => obtain ⟨b', C, t, h1, h2, h3, h4, h5, h6⟩ := hr; simp only [blkAt, h1, Option.map_some, Option.some.injEq] at hb; subst hb; exact h6
        | false => cases hb
      | mp kd es => obtain ⟨b', E, c, h1, h2, h3, h4, h5⟩ := hr; simp only [blkAt, h1, Option.map_some, Option.some.injEq] at hb; subst hb; exact h5
      | gone => cases hb⟩), h.sep, h.top⟩

theorem Adv.same {W : Nat → Prop} {F : FM} {φ : PM} {S : Heap} {w w' : World} (hh : w'.heap = w.heap) (ho : w'.os = w.os) (ht : w'.tape = w.tape) (hu : w'.output = w.output) : Adv W F φ S w F φ S w' :=
  ⟨FM.le.refl _, PM.le.refl _, rfl, ho, ht, hu, by rw [hh]; exact Nat.le_refl _, fun _ _ _ => ⟨by rw [hh], fun _ => rfl⟩, fun _ _ B _ h k _ => ⟨B, h, k⟩⟩

theorem Inv.free {F : FM} {φ : PM} {S : Heap} {w : World} (h : Inv F φ S w) {d k : Nat} {B : Blk} {b : Nat} (hB : atS S d k = some B) (hb : blkAt φ d k B = some b) (o : Nat) : F b o = none := by
  have hr := h.blk d k B hB
  cases B with
  | box cs => obtain ⟨b', C, t, h1, h2, h3, h4, h5⟩ := hr; simp only [blkAt, h1, Option.map_some, Option.some.injEq] at hb; subst hb; exact h5 o
  | arr live sz xs => cases live with
    | true => obtain ⟨b', C, t, h1, h2, h3, h4, h5, h6⟩ := hr; simp only [blkAt, h1, Option.map_some, Option.some.injEq] at hb; subst hb; exact h6 o
    | false => cases hb
  | mp kd es => obtain ⟨b', E, c, h1, h2, h3, h4, h5⟩ := hr; simp only [blkAt, h1, Option.map_some, Option.some.injEq] at hb; subst hb; exact h5 o
  | gone => cases hb

end Go.GL
