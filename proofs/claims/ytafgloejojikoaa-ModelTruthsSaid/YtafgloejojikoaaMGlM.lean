/-
  GL, part M: calls.
-/
import Derived.Test.YtafgloejojikoaaMGlL
set_option linter.unusedSimpArgs false
set_option linter.unusedVariables false
/-! GL, part M: calls. -/
namespace Go.GL

/-- φ, but for the frames from m on. -/
def PM.under (φ : PM) (m : Nat) : PM := fun d k n => if d < m then φ d k n else none
theorem PM.under_lt {φ : PM} {m d : Nat} (h : d < m) (k n : Nat) : φ.under m d k n = φ d k n := if_pos h
theorem PM.under_some {φ : PM} {m d k n : Nat} {x} (h : φ.under m d k n = some x) : d < m ∧ φ d k n = some x := by
  unfold PM.under at h
  split at h
  · rename_i hd; exact ⟨hd, h⟩
  · cases h
theorem PM.under_upto {φ : PM} {m d : Nat} (h : d < m) : (φ.under m).upto d = φ.upto d := by
  funext d' k n
  unfold PM.upto PM.under
  split
  · rename_i hd; rw [if_pos (by omega)]
  · rfl
theorem PM.upto_under {φ : PM} {m : Nat} (h : 0 < m) : φ.upto (m - 1) = φ.under m := by
  funext d' k n
  unfold PM.upto PM.under
  by_cases hd : d' < m
  · rw [if_pos (by omega), if_pos hd]
  · rw [if_neg (by omega), if_neg hd]

section
variable {P : Program} {T : Tab} {O : Orc} {n : Nat} {ds : List Deferred} {F : FM} {φ : PM} {w : World} {a : Act} {s : St}

theorem blkAt_under {m d k : Nat} (h : d < m) (B : Blk) : blkAt (φ.under m) d k B = blkAt φ d k B := by
  unfold blkAt
  split
  · rw [PM.under_lt h]
  · rw [PM.under_lt h]
  · rw [PM.under_lt h]
  · rfl

theorem RepB.under {m d k : Nat} {B : Blk} (h : RepB F φ w d k B) (hd : d < m) : RepB F (φ.under m) w d k B := by
  cases B with
  | box cs =>
    obtain ⟨b, C, t, h1, h2, h3, h4, h5⟩ := h
    exact ⟨b, C, t, by rw [PM.under_lt hd]; exact h1, h2, h3, by rw [PM.under_upto hd]; exact h4, h5⟩
  | arr live sz xs =>
    cases live with
    | true =>
      obtain ⟨b, C, t, h1, h2⟩ := h
      exact ⟨b, C, t, by rw [PM.under_lt hd]; exact h1, h2⟩
    | false =>
      obtain ⟨b, S, cv, h1, h2⟩ := h
      exact ⟨b, S, cv, by rw [PM.under_lt hd]; exact h1, h2⟩
  | mp es =>
    obtain ⟨b, E, c, h1, h2, h3, h4, h5⟩ := h
    exact ⟨b, E, c, by rw [PM.under_lt hd]; exact h1, h2, h3, by rw [PM.under_upto hd]; exact h4, h5⟩
  | gone => trivial

theorem at_up {L : List Blk} {H : Heap} {d k : Nat} {B : Blk} (h : atS H d k = some B) : atS (L :: H) d k = some B := by
  have := atS_lt h
  rw [atS_cons (by omega)]
  exact h

theorem at_down {H : Heap} {d k : Nat} {B : Blk} (h : atS ([] :: H) d k = some B) : atS H d k = some B ∧ d < H.length := by
  by_cases hd : d = H.length
  · subst hd
    rw [atS_top] at h
    simp at h
  · rw [atS_cons hd] at h
    exact ⟨h, atS_lt h⟩

theorem Inv.push {H : Heap} (h : Inv F φ H w) : Inv F φ ([] :: H) w :=
  ⟨h.cell, fun d k n x hx => by
      obtain ⟨B, hB, hne⟩ := h.new d k n x hx
      exact ⟨B, at_up hB, hne⟩,
    fun d k B hB => h.blk d k B (at_down hB).1, fun d k B d' k' B' b h1 h2 => h.sep d k B d' k' B' b (at_down h1).1 (at_down h2).1,
    fun d k live sz xs n x h1 => h.top d k live sz xs n x (at_down h1).1⟩

theorem Inv.drop {L : List Blk} {H : Heap} (h : Inv F φ (L :: H) w) : Inv F (φ.under H.length) H w :=
  ⟨h.cell, fun d k n x hx => by
      obtain ⟨hd, hx⟩ := PM.under_some hx
      obtain ⟨B, hB, hne⟩ := h.new d k n x hx
      rw [atS_cons (by omega)] at hB
      exact ⟨B, hB, hne⟩,
    fun d k B hB => (h.blk d k B (at_up hB)).under (atS_lt hB),
    fun d k B d' k' B' b h1 h2 e1 e2 => by
      rw [blkAt_under (atS_lt h1)] at e1
      rw [blkAt_under (atS_lt h2)] at e2
      exact h.sep d k B d' k' B' b (at_up h1) (at_up h2) e1 e2,
    fun d k live sz xs n x h1 hx => h.top d k live sz xs n x (at_up h1) (PM.under_some hx).2⟩

theorem Adv.drop {wl : Nat} {W : Nat → Prop} {F0 : FM} {φ0 : PM} {H0 : Heap} {w0 : World} {L : List Blk} {H : Heap} (a : Adv W F0 φ0 ([] :: H0) w0 F φ (L :: H) w) (h0 : Inv F0 φ0 H0 w0) (hW : ∀ d, W d → wl ≤ d ∨ d = H0.length) :
    Adv (fun d => wl ≤ d) F0 φ0 H0 w0 F (φ.under H.length) H w := by
  have hl : H.length = H0.length := by have := a.len; simpa using this
  refine ⟨a.fm, fun d k n x hx => ?_, hl, a.os, a.tape, a.output, a.size, fun i hi hn => a.block i hi fun d k B hB hb hw => ?_, fun d k B' i h1 h2 h3 => ?_⟩
  · obtain ⟨B, hB, _⟩ := h0.new d k n x hx
    have := atS_lt hB
    rw [PM.under_lt (by omega)]
    exact a.pm _ _ _ _ hx
  · obtain ⟨h1, h2⟩ := at_down hB
    rcases hW d hw with h3 | h3
    · exact hn d k B h1 hb h3
    · omega
  · rw [blkAt_under (atS_lt h1)] at h2
    obtain ⟨B, h4, h5⟩ := a.old d k B' i (at_up h1) h2 h3
    exact ⟨B, (at_down h4).1, h5⟩

/-- A row of the frame's own becomes its caller's. -/
theorem Inv.adopt {W : Nat → Prop} {wl : Nat} {F0 : FM} {φ0 : PM} {H0 : Heap} {w0 : World} {L L1 : List Blk} {H1 : Heap} {k sz b S : Nat} {xs : List PV} (h : Inv F φ (L :: L1 :: H1) w) (ha : Adv W F0 φ0 ([] :: H0) w0 F φ (L :: L1 :: H1) w) (h0 : Inv F0 φ0 H0 w0) (hW : ∀ d, W d → wl ≤ d ∨ d = H0.length)
    (hk : L[k]? = some (.arr true sz xs)) (hx : φ (L1 :: H1).length k xs.length = some (b, S, sz)) :
    ∃ φ', Adv (fun d => wl ≤ d) F0 φ0 H0 w0 F φ' ((L1 ++ [.arr true sz xs]) :: H1) w ∧ Inv F φ' ((L1 ++ [.arr true sz xs]) :: H1) w ∧ φ' H1.length L1.length xs.length = some (b, S, sz) := by
  have hB : atS (L :: L1 :: H1) (L1 :: H1).length k = some (.arr true sz xs) := by rw [atS_top]; exact hk
  have h1 := h.drop
  have a1 := ha.drop h0 hW
  have hl : (L1 :: H1).length = H0.length := by have := ha.len; simpa using this
  generalize hu : φ.under (L1 :: H1).length = φu at h1 a1
  have hnone : φu H1.length L1.length xs.length = none := h1.free_id (.inl (at_free L1 H1)) _
  have hle := PM.le_put (x := (b, S, sz)) hnone
  have hself := PM.put_self φu H1.length L1.length xs.length (b, S, sz)
  obtain ⟨b', C, t, g1, g2, g3, g4, g5, g6⟩ := h.blk _ k _ hB
  rw [g1] at hx
  injection hx with hx
  simp only [Prod.mk.injEq] at hx
  obtain ⟨rfl, rfl, _⟩ := hx
  have hbat : blkAt φ (L1 :: H1).length k (.arr true sz xs) = some b' := by
    show (φ (L1 :: H1).length k xs.length).map (·.1) = some b'
    rw [g1]
    rfl
  have hat := at_push L1 H1 (.arr true sz xs)
  have hother : ∀ d' k' B', atS (L1 :: H1) d' k' = some B' → blkAt φu d' k' B' ≠ some b' := by
    intro d' k' B' h2 h3
    have hd := atS_lt h2
    rw [← hu, blkAt_under hd] at h3
    have := (h.sep d' k' B' _ k _ b' (at_up h2) hB h3 hbat).1
    omega
  have hinv : Inv F (φu.put H1.length L1.length xs.length (b', C.size, sz)) ((L1 ++ [.arr true sz xs]) :: H1) w := by
    refine h1.upd (FM.le.refl _) hle hat (fun d' k' n' x hx => PM.put_inv hx) (fun e => by cases e) h1.cell (fun d' k' B' b2 _ h2 h3 => ⟨rfl, h1.free h2 h3⟩)
      ⟨b', C, t, hself, g2, g3, g4, g5, g6⟩ (fun b2 hb2 d' k' B' _ h2 h3 => ?_) (fun live sz' xs' e n' x hx => ?_)
    · simp only [blkAt, hself, Option.map_some, Option.some.injEq] at hb2
      subst hb2
      exact hother d' k' B' h2 h3
    · injection e with _ _ e
      subst e
      unfold PM.put at hx
      split at hx
      · rename_i hh; omega
      · rw [h1.free_id (.inl (at_free L1 H1))] at hx; cases hx
  refine ⟨_, ⟨a1.fm, fun d k n x hx => hle _ _ _ _ (a1.pm _ _ _ _ hx), a1.len, a1.os, a1.tape, a1.output, a1.size, a1.block, fun d' k' B' i h2 h3 h4 => ?_⟩, hinv, hself⟩
  rw [hat] at h2
  split at h2
  · rename_i hh
    obtain ⟨rfl, rfl⟩ := hh
    injection h2 with h2
    subst h2
    simp only [blkAt, hself, Option.map_some, Option.some.injEq] at h3
    subst h3
    obtain ⟨B, h5, _⟩ := ha.old _ k _ b' hB hbat h4
    have := (at_down h5).2
    omega
  · rename_i hh
    refine a1.old d' k' B' i h2 ?_ h4
    unfold blkAt at *
    split at h3
    · obtain ⟨x, hx, rfl⟩ := Option.map_eq_some_iff.1 h3
      exact Option.map_eq_some_iff.2 ⟨x, (PM.put_inv hx).resolve_right hh, rfl⟩
    · obtain ⟨x, hx, rfl⟩ := Option.map_eq_some_iff.1 h3
      exact Option.map_eq_some_iff.2 ⟨x, (PM.put_inv hx).resolve_right hh, rfl⟩
    · obtain ⟨x, hx, rfl⟩ := Option.map_eq_some_iff.1 h3
      exact Option.map_eq_some_iff.2 ⟨x, (PM.put_inv hx).resolve_right hh, rfl⟩
    · cases h3

/-! ### Results -/
def resOf (tmps : Array Value) : ResultVar → Sem Value
  | .tmp t => pure (tmps.getD t undef)
  | .cell a t => do loadVar t (← asAddr (tmps.getD a undef))

theorem loadAt_var {t : TypeId} {v u : Value} (h : (Instr.loadAt t v).run P w = .ok u w) : (do loadVar t (← asAddr v) : Sem Value).run P w = .ok u w := by
  cases v with
  | pointer a =>
    cases a with
    | some a => exact h
    | none => simp [Instr.loadAt, Instr.sureAddr, stuck] at h
  | _ => simp [Instr.loadAt, Instr.sureAddr, stuck] at h

theorem read_ok (hT : TOk P T) (hI : Inv F φ s.stack w) (hE : EnvOk n ds F φ s a) : ∀ (rs : List ResultVar) (vs : List PV), readR T s rs = some vs → ∃ us : List Value, (rs.mapM (resOf a.tmps)).run P w = .ok us w ∧ Reps F φ vs us
  | [], vs, h => by
    simp only [readR, Option.some.injEq] at h
    subst h
    exact ⟨[], by simp, rfl, by simp⟩
  | .tmp t :: rs, vs, h => by
    simp only [readR] at h
    obtain ⟨vs', h1, rfl⟩ := Option.map_eq_some_iff.1 h
    obtain ⟨us, h2, h3⟩ := read_ok hT hI hE rs vs' h1
    refine ⟨a.tmps.getD t undef :: us, by simp only [List.mapM_cons, resOf, Sem.run_bind, Sem.run_pure, Result.andThen_ok, h2], by simp [h3.1], fun j c v hc hv => ?_⟩
    cases j with
    | zero => simp at hc hv; subst hc hv; simpa using hE.rep t
    | succ j => exact h3.2 j c v hc hv
  | .cell x t :: rs, vs, h => by
    simp only [readR] at h
    obtain ⟨p, h0, h⟩ := Option.bind_eq_some_iff.1 h
    obtain ⟨vs', h1, rfl⟩ := Option.map_eq_some_iff.1 h
    obtain ⟨us, h2, h3⟩ := read_ok hT hI hE rs vs' h1
    obtain ⟨u, h4, h5⟩ := loadP_ok hT hI (hE.rep x) h0
    have h6 := loadAt_var h4
    refine ⟨u :: us, by simp only [List.mapM_cons, resOf, Sem.run_bind, Sem.run_pure] at h6 ⊢; rw [h6]; simp [h2], by simp [h3.1], fun j c v hc hv => ?_⟩
    cases j with
    | zero => simp at hc hv; subst hc hv; exact h5
    | succ j => exact h3.2 j c v hc hv

theorem results_ok (hT : TOk P T) (hI : Inv F φ s.stack w) (hE : EnvOk n ds F φ s a) {fn : Func} {vs : List PV} (h : readR T s fn.results.toList = some vs) : ∃ u, (results fn a.tmps).run P w = .ok u w ∧ Rep F φ (tupled vs) u := by
  obtain ⟨us, h1, h2⟩ := read_ok hT hI hE _ _ h
  have hm : (fn.results.mapM (resOf a.tmps)).run P w = .ok us.toArray w := by
    have e : (Array.toList <$> fn.results.mapM (resOf a.tmps)).run P w = .ok us w := by rw [Array.toList_mapM]; exact h1
    rw [Sem.run_map] at e
    cases hx : (fn.results.mapM (resOf a.tmps)).run P w with
    | ok arr w1 =>
      rw [hx] at e
      simp only [Result.andThen_ok, Result.ok.injEq] at e
      obtain ⟨e1, rfl⟩ := e
      rw [← e1]
    | halt x w1 => rw [hx] at e; cases e
  have hres : results fn a.tmps = (do let vs ← fn.results.mapM (resOf a.tmps); pure (if h : vs.size = 1 then vs[0] else .tuple vs)) := rfl
  refine ⟨if h : us.toArray.size = 1 then us.toArray[0] else .tuple us.toArray, by rw [hres]; simp only [Sem.run_bind, hm, Result.andThen_ok, Sem.run_pure], ?_⟩
  obtain ⟨l1, l2⟩ := h2
  match vs, us, l1 with
  | [v], [u], _ => exact l2 0 v u rfl rfl
  | [], [], _ => exact .tup [] #[] rfl (by simp)
  | v :: v' :: vs, u :: u' :: us, l1 =>
    rw [dif_neg (by simp)]
    exact .tup _ _ (by simpa using l1) (fun j c v hc hv => l2 j c v hc (by simpa using hv))

end
end Go.GL
