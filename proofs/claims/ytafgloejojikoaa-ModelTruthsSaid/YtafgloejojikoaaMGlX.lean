/-
  GL, part X: rows that are written no more; what is told by value.
-/
import Derived.Test.YtafgloejojikoaaMGlW
set_option linter.unusedSimpArgs false
set_option linter.unusedVariables false
/-! GL, part X: rows that are written no more; what is told by value. -/
namespace Go.GL

def dead : Blk → Blk
  | .arr _ sz xs => .arr false sz xs
  | b => b

mutual
/-- The rows of depth d in a value. -/
def owns (d : Nat) : PV → List Nat
  | .own d' k _ _ => if d' = d then [k] else []
  | .agg cs => ownsL d cs
  | .tup vs => ownsL d vs
  | _ => []
def ownsL (d : Nat) : List PV → List Nat
  | [] => []
  | p :: ps => owns d p ++ ownsL d ps
end

theorem dead_dead (b : Blk) : dead (dead b) = dead b := by cases b <;> rfl

theorem if_dead {L : List Blk} {k : Nat} (h : (L[k]?).map dead = L[k]?) (j : Nat) : L[j]? = if j = k then (L[j]?).map dead else L[j]? := by
  by_cases e : j = k
  · subst e; rw [if_pos rfl, h]
  · rw [if_neg e]

theorem set_dead (L : List Blk) (k : Nat) (j : Nat) : (match L[k]? with
    | some (.arr _ sz xs) => L.set k (.arr false sz xs)
    | _ => L)[j]? = if j = k then (L[j]?).map dead else L[j]? := by
  cases hk : L[k]? with
  | none => exact if_dead (by rw [hk]; rfl) j
  | some b =>
    cases b with
    | arr live sz xs =>
      simp only [List.getElem?_set]
      by_cases h : j = k
      · subst h
        have := (List.getElem?_eq_some_iff.1 hk).1
        rw [if_pos rfl, if_pos this, if_pos rfl, hk]
        rfl
      · rw [if_neg (fun e => h e.symm), if_neg h]
    | box cs => exact if_dead (by rw [hk]; rfl) j
    | mp es => exact if_dead (by rw [hk]; rfl) j
    | gone => exact if_dead (by rw [hk]; rfl) j

mutual
theorem shut_get (d : Nat) : ∀ (p : PV) (L : List Blk) (j : Nat), (shut d p L)[j]? = if j ∈ owns d p then (L[j]?).map dead else L[j]?
  | .own d' k n sz, L, j => by
    simp only [shut, owns]
    by_cases h : d' = d
    · simp only [h, if_true, List.mem_singleton]
      exact set_dead L k j
    · simp [h]
  | .agg cs, L, j => by simp only [shut, owns]; exact shutL_get d cs L j
  | .tup cs, L, j => by simp only [shut, owns]; exact shutL_get d cs L j
  | .bool _, L, j => by simp [shut, owns]
  | .int _ _, L, j => by simp [shut, owns]
  | .str _, L, j => by simp [shut, owns]
  | .lst _ _, L, j => by simp [shut, owns]
  | .iface _ _, L, j => by simp [shut, owns]
  | .nilIface, L, j => by simp [shut, owns]
  | .ptr _ _ _, L, j => by simp [shut, owns]
  | .eptr _ _ _ _ _, L, j => by simp [shut, owns]
  | .rptr _ _, L, j => by simp [shut, owns]
  | .nilp, L, j => by simp [shut, owns]
  | .func _ _ _, L, j => by simp [shut, owns]
  | .nilFunc, L, j => by simp [shut, owns]
  | .map _ _, L, j => by simp [shut, owns]
  | .nilm, L, j => by simp [shut, owns]
  | .junk, L, j => by simp [shut, owns]
theorem shutL_get (d : Nat) : ∀ (ps : List PV) (L : List Blk) (j : Nat), (shutL d ps L)[j]? = if j ∈ ownsL d ps then (L[j]?).map dead else L[j]?
  | [], L, j => by simp [shutL, ownsL]
  | p :: ps, L, j => by
    simp only [shutL, ownsL, List.mem_append]
    rw [shutL_get d ps, shut_get d p]
    by_cases h1 : j ∈ ownsL d ps <;> by_cases h2 : j ∈ owns d p <;> simp [h1, h2]
    cases L[j]? <;> simp [dead_dead]
end

section
variable {F : FM} {φ : PM} {w : World}

/-- One row is written no more. -/
theorem Inv.shut1 {S S' : Heap} (W : Nat → Prop) (h : Inv F φ S w) {d k : Nat} {live : Bool} {sz : Nat} {xs : List PV} (hB : atS S d k = some (.arr live sz xs)) (hw : W d) (hlen : S'.length = S.length)
    (hat : ∀ d' k', atS S' d' k' = if d' = d ∧ k' = k then some (.arr false sz xs) else atS S d' k') : ∃ F', Adv W F φ S w F' φ S' w ∧ Inv F' φ S' w := by
  cases live with
  | false =>
    refine ⟨F, ⟨FM.le.refl _, PM.le.refl _, hlen, rfl, rfl, rfl, Nat.le_refl _, fun _ _ _ => ⟨rfl, fun _ => rfl⟩, fun d' k' B' i h1 h2 _ => ?_⟩, ?_⟩
    · rw [hat] at h1
      split at h1
      · injection h1 with h1; subst h1; cases h2
      · exact ⟨B', h1, h2⟩
    · exact h.upd (FM.le.refl _) (PM.le.refl _) hat (fun _ _ _ _ e => .inl e) (fun e => by cases e) h.cell (fun d' k' B' b _ h1 h2 => ⟨rfl, h.free h1 h2⟩) (h.blk d k _ hB) (fun b hb => by cases hb) (fun _ _ _ e n x hx => by injection e with _ _ e; rw [← e]; exact h.top _ _ _ _ _ _ _ hB hx)
  | true =>
    obtain ⟨b, C, t, g1, g2, g3, g4, g5, g6⟩ := h.blk d k _ hB
    have hle : FM.le F (fun b' o => if b' = b ∧ o < xs.length * sz then C[o]? else F b' o) := fun b' o v e => by
      show (if _ then _ else _) = _
      rw [if_neg (fun hh => by rw [hh.1, g6] at e; cases e)]
      exact e
    refine ⟨_, ⟨hle, PM.le.refl _, hlen, rfl, rfl, rfl, Nat.le_refl _, fun i hi hn => ⟨rfl, fun o => if_neg (fun hh => hn d k _ hB (by simp [blkAt, g1, hh.1]) hw)⟩, fun d' k' B' i h1 h2 _ => ?_⟩, ?_⟩
    · rw [hat] at h1
      split at h1
      · injection h1 with h1; subst h1; cases h2
      · exact ⟨B', h1, h2⟩
    · refine h.upd hle (PM.le.refl _) hat (fun _ _ _ _ e => .inl e) (fun e => by cases e) (fun b' o v e => ?_) (fun d' k' B' b' hne h1 h2 => ⟨rfl, fun o => ?_⟩) ?_ (fun b hb => by cases hb) (fun _ _ _ e n x hx => by injection e with _ _ e; rw [← e]; exact h.top _ _ _ _ _ _ _ hB hx)
      · split at e
        · rename_i hh
          obtain ⟨rfl, _⟩ := hh
          simp [World.cell?, g2, e]
        · exact h.cell b' o v e
      · show (if _ then _ else _) = _
        rw [if_neg (fun hh => hne (h.sep d k _ d' k' B' b' hB h1 (by simp [blkAt, g1, hh.1]) h2))]
        exact h.free h1 h2 o
      · have idx : ∀ {i j : Nat} {x : PV} {c : PV}, xs[i]? = some x → (cellsOf x)[j]? = some c → i * sz + j < xs.length * sz := by
          intro i j x c hx hc
          have h1 := (List.getElem?_eq_some_iff.1 hx).1
          have h2 := (List.getElem?_eq_some_iff.1 hc).1
          rw [g4 x (List.mem_of_getElem? hx)] at h2
          have : (i + 1) * sz ≤ xs.length * sz := Nat.mul_le_mul_right _ h1
          rw [Nat.add_mul] at this
          omega
        refine ⟨b, C.size, fun i j => (C[i * sz + j]?).getD .nilFunc, g1, g4, fun x hx c hc => ?_, fun i x j c hx hc => ?_, fun i x j c hx hc => ?_⟩
        · obtain ⟨i, hi⟩ := List.getElem?_of_mem hx
          obtain ⟨j, hj⟩ := List.getElem?_of_mem hc
          exact (g5 i x j c hi hj).1
        · obtain ⟨_, v, hv, _⟩ := g5 i x j c hx hc
          show (if _ then _ else _) = _
          rw [if_pos ⟨rfl, idx hx hc⟩]
          simp only [hv, Option.getD_some]
        · obtain ⟨_, v, hv, hr⟩ := g5 i x j c hx hc
          simp only [hv, Option.getD_some]
          exact hr.mono hle

/-- Several rows are. -/
theorem Inv.shutN (W : Nat → Prop) {H : Heap} (hw : W H.length) : ∀ (ks : List Nat) {F : FM} {L L' : List Blk}, Inv F φ (L :: H) w → (∀ (j : Nat), L'[j]? = if j ∈ ks then (L[j]?).map dead else L[j]?) →
    ∃ F', Adv W F φ (L :: H) w F' φ (L' :: H) w ∧ Inv F' φ (L' :: H) w
  | [], F, L, L', h, hL => by
    have : L' = L := List.ext_getElem? (fun j => by rw [hL]; simp)
    subst this
    exact ⟨F, Adv.refl _ _ _ _ _, h⟩
  | k :: ks, F, L, L', h, hL => by
    have step : ∃ F1 L1, Adv W F φ (L :: H) w F1 φ (L1 :: H) w ∧ Inv F1 φ (L1 :: H) w ∧ ∀ (j : Nat), L1[j]? = if j = k then (L[j]?).map dead else L[j]? := by
      cases hk : L[k]? with
      | none => exact ⟨F, L, Adv.refl _ _ _ _ _, h, if_dead (by rw [hk]; rfl)⟩
      | some b =>
        cases b with
        | arr live sz xs =>
          have hlt := (List.getElem?_eq_some_iff.1 hk).1
          obtain ⟨F1, a1, i1⟩ := h.shut1 (S' := L.set k (.arr false sz xs) :: H) (d := H.length) (k := k) W (by rw [atS_top]; exact hk) hw rfl (at_set hlt _)
          refine ⟨F1, _, a1, i1, fun j => ?_⟩
          rw [List.getElem?_set]
          by_cases e : j = k
          · subst e; rw [if_pos rfl, if_pos hlt, if_pos rfl, hk]; rfl
          · rw [if_neg (fun e' => e e'.symm), if_neg e]
        | _ => exact ⟨F, L, Adv.refl _ _ _ _ _, h, if_dead (by rw [hk]; rfl)⟩
    obtain ⟨F1, L1, a1, i1, hL1⟩ := step
    obtain ⟨F2, a2, i2⟩ := Inv.shutN W hw ks i1 (L' := L') (fun j => by
      rw [hL, hL1]
      by_cases e1 : j = k <;> by_cases e2 : j ∈ ks <;> simp [e1, e2]
      · subst e1; simp [e2]; cases L[j]? <;> simp [dead_dead]
      · subst e1; simp [e2])
    exact ⟨F2, a1.trans a2, i2⟩

theorem Inv.shutL (W : Nat → Prop) {H : Heap} {L : List Blk} (hw : W H.length) (h : Inv F φ (L :: H) w) (d : Nat) (ps : List PV) : ∃ F', Adv W F φ (L :: H) w F' φ (shutL d ps L :: H) w ∧ Inv F' φ (shutL d ps L :: H) w :=
  Inv.shutN W hw (ownsL d ps) h (shutL_get d ps L)

mutual
/-- What is told by value: S: the heap that is asked; S1: the one in which the rows are written no more. -/
theorem frz_rep {S S1 : Heap} {d : Nat} {ro : Bool} (hI : Inv F φ S1 w) : ∀ (p : PV) {q : PV} {v : Value}, (∀ k live sz xs, k ∈ owns d p → atS S d k = some (.arr live sz xs) → (ro && live) = false → atS S1 d k = some (.arr false sz xs)) →
    frz S d ro p = some q → Rep F φ p v → Rep F φ q v
  | .own d' k n sz, q, v, hk, h, hr => by
    simp only [frz] at h
    split at h
    · rename_i hd
      subst hd
      split at h
      · rename_i live sz' xs hB
        split at h
        · rename_i hh
          obtain ⟨rfl, rfl, hro⟩ := hh
          injection h with h
          subst h
          have hB1 := hk k live sz xs (by simp [owns]) hB hro
          cases hr with
          | data p v hl h => simp [isLeaf] at hl
          | own d k n sz b S0 cap hp hn hS =>
          obtain ⟨b', S1', cv, g1, g2, g3, g4, g5⟩ := hI.blk d' k _ hB1
          rw [g1] at hp
          injection hp with hp
          simp only [Prod.mk.injEq] at hp
          obtain ⟨rfl, _, _⟩ := hp
          exact .data _ _ rfl (.lst false xs _ b' 0 cap sz cv hn (by simp) (fun _ => rfl) g2 g3 (fun i x j c hx hc => by rw [Nat.zero_add]; exact g4 i x j c hx hc) g5)
        · cases h
      · cases h
    · split at h
      · cases h
      · injection h with h; subst h; exact hr
  | .lst full xs, q, v, hk, h, hr => by
    simp only [frz, Option.some.injEq] at h
    subst h
    exact hr
  | .agg cs, q, v, hk, h, hr => by
    simp only [frz] at h
    obtain ⟨qs, hq, rfl⟩ := Option.map_eq_some_iff.1 h
    cases hr with
    | data p v hl h => simp [isLeaf] at hl
    | agg cs vs hl h1 hr =>
      obtain ⟨e1, e2, e3⟩ := frzL_rep hI cs (vs := vs.toList) (fun k live sz xs hm => hk k live sz xs (by simpa [owns] using hm)) hq (by simpa using hl) (fun j c v hc hv => hr j c v hc (by simpa using hv))
      refine .agg qs vs (by rw [e1]; exact hl) (fun c hc => ?_) (fun j c v hc hv => e2 j c v hc (by simpa using hv))
      exact e3 h1 c hc
  | .tup cs, q, v, hk, h, hr => by
    simp only [frz] at h
    obtain ⟨qs, hq, rfl⟩ := Option.map_eq_some_iff.1 h
    cases hr with
    | data p v hl h => simp [isLeaf] at hl
    | tup cs vs hl hr =>
      obtain ⟨e1, e2, _⟩ := frzL_rep hI cs (vs := vs.toList) (fun k live sz xs hm => hk k live sz xs (by simpa [owns] using hm)) hq (by simpa using hl) (fun j c v hc hv => hr j c v hc (by simpa using hv))
      exact .tup qs vs (by rw [e1]; exact hl) (fun j c v hc hv => e2 j c v hc (by simpa using hv))
  | .bool _, q, v, hk, h, hr => by simp only [frz, Option.some.injEq] at h; subst h; exact hr
  | .int _ _, q, v, hk, h, hr => by simp only [frz, Option.some.injEq] at h; subst h; exact hr
  | .str _, q, v, hk, h, hr => by simp only [frz, Option.some.injEq] at h; subst h; exact hr
  | .iface _ _, q, v, hk, h, hr => by simp only [frz, Option.some.injEq] at h; subst h; exact hr
  | .nilIface, q, v, hk, h, hr => by simp only [frz, Option.some.injEq] at h; subst h; exact hr
  | .ptr _ _ _, q, v, hk, h, hr => by simp only [frz, Option.some.injEq] at h; subst h; exact hr
  | .eptr _ _ _ _ _, q, v, hk, h, hr => by simp only [frz, Option.some.injEq] at h; subst h; exact hr
  | .rptr _ _, q, v, hk, h, hr => by simp only [frz, Option.some.injEq] at h; subst h; exact hr
  | .nilp, q, v, hk, h, hr => by simp only [frz, Option.some.injEq] at h; subst h; exact hr
  | .func _ _ _, q, v, hk, h, hr => by simp only [frz, Option.some.injEq] at h; subst h; exact hr
  | .nilFunc, q, v, hk, h, hr => by simp only [frz, Option.some.injEq] at h; subst h; exact hr
  | .map _ _, q, v, hk, h, hr => by simp only [frz, Option.some.injEq] at h; subst h; exact hr
  | .nilm, q, v, hk, h, hr => by simp only [frz, Option.some.injEq] at h; subst h; exact hr
  | .junk, q, v, hk, h, hr => by simp only [frz, Option.some.injEq] at h; subst h; exact hr
theorem frzL_rep {S S1 : Heap} {d : Nat} {ro : Bool} (hI : Inv F φ S1 w) : ∀ (ps : List PV) {qs : List PV} {vs : List Value}, (∀ k live sz xs, k ∈ ownsL d ps → atS S d k = some (.arr live sz xs) → (ro && live) = false → atS S1 d k = some (.arr false sz xs)) →
    frzL S d ro ps = some qs → vs.length = ps.length → (∀ (j : Nat) (c : PV) (v : Value), ps[j]? = some c → vs[j]? = some v → Rep F φ c v) →
    qs.length = ps.length ∧ (∀ (j : Nat) (c : PV) (v : Value), qs[j]? = some c → vs[j]? = some v → Rep F φ c v) ∧ ((∀ c ∈ ps, one c = true) → ∀ c ∈ qs, one c = true)
  | [], qs, vs, hk, h, hl, hr => by
    simp only [frzL, Option.some.injEq] at h
    subst h
    exact ⟨rfl, by simp, by simp⟩
  | p :: ps, qs, vs, hk, h, hl, hr => by
    simp only [frzL] at h
    obtain ⟨q, hq, h⟩ := Option.bind_eq_some_iff.1 h
    obtain ⟨qs', hqs, rfl⟩ := Option.map_eq_some_iff.1 h
    match vs, hl with
    | v :: vs, hl =>
      have r0 := frz_rep hI p (fun k live sz xs hm => hk k live sz xs (by simp [ownsL, hm])) hq (hr 0 p v rfl rfl)
      obtain ⟨e1, e2, e3⟩ := frzL_rep hI ps (vs := vs) (fun k live sz xs hm => hk k live sz xs (by simp [ownsL, hm])) hqs (by simpa using hl) (fun j c v hc hv => hr (j + 1) c v hc hv)
      refine ⟨by simp [e1], fun j c v hc hv => ?_, fun h1 c hc => ?_⟩
      · cases j with
        | zero => simp at hc hv; subst hc hv; exact r0
        | succ j => exact e2 j c v hc hv
      · rcases List.mem_cons.1 hc with rfl | hc
        · have hp := h1 p (by simp)
          cases p <;> simp only [frz, Option.some.injEq] at hq <;> first | (subst hq; exact hp) | (subst hq; rfl) | (simp [one] at hp; done) | skip
          split at hq
          · split at hq
            · split at hq
              · injection hq with hq; subst hq; rfl
              · cases hq
            · cases hq
          · split at hq
            · cases hq
            · injection hq with hq; subst hq; rfl
        · exact e3 (fun c hc => h1 c (by simp [hc])) c hc
end

end
end Go.GL
