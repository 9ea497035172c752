/-
  GL, part H: two operations that no edge binds may change places.
-/
import Derived.Test.YtafgloejojikoaaMGlG
set_option linter.unusedSimpArgs false
set_option linter.unusedVariables false
/-! GL, part H: two operations that no edge binds may change places. -/
namespace Go.GL

section
variable (T : Tab) (O : Orc) (wl : Nat) (ops : Array Oper) (L0 : List Blk)

def runIdx : List Nat → St → Option (Ex × St)
  | [], s => some (.normal, s)
  | i :: l, s => match ops[i]? with
    | none => none
    | some o => match stepDraw T O wl ops L0 i o s with
      | some (.val v, s1) => runIdx l (s1.put o.dst v)
      | some (.panic v, s1) => if allWait ops i then some (.panic v, s1) else none
      | none => none

theorem runDraw_idx (l : List Oper) : ∀ (i : Nat) (s : St), (∀ j, l[j]? = ops[i + j]?) → runDraw T O wl ops L0 i l s = runIdx T O wl ops L0 (List.range' i l.length) s := by
  induction l with
  | nil => intro i s _; rfl
  | cons o l ih =>
    intro i s h
    have h0 : ops[i]? = some o := by simpa using (h 0).symm
    have ih' := ih (i + 1)
    simp only [List.length_cons, List.range'_succ, runDraw, runIdx, h0]
    cases stepDraw T O wl ops L0 i o s with
    | none => rfl
    | some q =>
      obtain ⟨r, s1⟩ := q
      cases r with
      | val v =>
        refine ih' _ (fun j => ?_)
        have := h (j + 1)
        rw [show i + 1 + j = i + (j + 1) by omega]
        simpa using this
      | panic v => rfl

variable {ops}
theorem drawOk_spec (h : drawOk ops = true) {i j : Nat} {x y : Oper} (hij : i < j) (hx : ops[i]? = some x) (hy : ops[j]? = some y) :
    (((Region.before ops).getD j 0).testBit i = true ∨ freeOf ops x y = true) ∧ (hard ops x = true → usesNow ops y = true → isStore y.op = true) := by
  have hj : j < ops.size := (Array.getElem?_eq_some_iff.1 hy).1
  unfold drawOk at h
  simp only [Bool.and_eq_true, List.all_eq_true, List.mem_range] at h
  have := h.2 j hj i hij
  rw [hx, hy] at this
  simp only [Bool.and_eq_true, Bool.or_eq_true, Bool.not_eq_true', Bool.and_eq_false_iff] at this
  refine ⟨this.1, fun h1 h2 => ?_⟩
  rcases this.2 with (h3 | h3) | h3
  · rw [h1] at h3; cases h3
  · rw [h2] at h3; cases h3
  · simpa using h3

theorem drawOk_edges (h : drawOk ops = true) {j : Nat} {y : Oper} (hy : ops[j]? = some y) : ∀ e ∈ y.after, Region.binds .any e = true → e.on < j := by
  have hj : j < ops.size := (Array.getElem?_eq_some_iff.1 hy).1
  unfold drawOk at h
  simp only [Bool.and_eq_true, List.all_eq_true, List.mem_range] at h
  have := h.1.2 j hj
  rw [hy] at this
  simp only [Array.all_eq_true_iff_forall_mem, Bool.or_eq_true, Bool.not_eq_true', decide_eq_true_eq] at this
  intro e he hb
  rcases this e he with h1 | h1
  · rw [hb] at h1; cases h1
  · exact h1

theorem allWait_lt {i : Nat} (h : allWait ops i = true) {j : Nat} (hj : j < i) (hi : i < ops.size) : ((Region.before ops).getD i 0).testBit j = true := by
  unfold allWait at h
  simp only [List.all_eq_true, List.mem_range] at h
  have := h j (by omega)
  rw [if_pos hj] at this
  simp only [Bool.or_eq_true, beq_iff_eq] at this
  exact this.resolve_left (by omega)
theorem allWait_gt {i : Nat} (h : allWait ops i = true) {j : Nat} (hj : i < j) (hs : j < ops.size) : ((Region.before ops).getD j 0).testBit i = true := by
  unfold allWait at h
  simp only [List.all_eq_true, List.mem_range] at h
  have := h j hs
  rw [if_neg (by omega)] at this
  simp only [Bool.or_eq_true, beq_iff_eq] at this
  exact this.resolve_left (by omega)

variable {T O wl L0}
theorem ownStore_some {t : Nat} {x y : PV} {s s' : St} (h : ownStore T wl L0 t x y s = some s') : ∃ d k off S, x = .ptr d k off ∧ d = s.H.length ∧ L0.length ≤ k ∧ storeS T wl t (.ptr d k off) y s.stack = some S ∧ withStack s S = some s' := by
  unfold ownStore at h
  split at h
  · rename_i d k off
    split at h
    · rename_i hh
      obtain ⟨S, hS, h2⟩ := Option.bind_eq_some_iff.1 h
      exact ⟨d, k, off, S, rfl, hh.1, hh.2, hS, h2⟩
    · cases h
  · cases h

theorem effD_env {i : Nat} {e : Eff} {s s' : St} (h : effD T wl L0 i e s = some s') : s'.env = s.env := by
  cases e with
  | no => injection h with h; rw [h]
  | blk b => injection h with h; rw [← h]
  | st t x y =>
    obtain ⟨S, _, h2⟩ := Option.bind_eq_some_iff.1 h
    exact (withStack_some h2).2
  | own t x y =>
    obtain ⟨d, k, off, S, rfl, _, _, _, h2⟩ := ownStore_some h
    exact (withStack_some h2).2
  | app k b => injection h with h; rw [← h]

theorem St.put_stack (s : St) (d : Option Nat) (v : PV) : (s.put d v).stack = s.stack ∧ (s.put d v).L = s.L ∧ (s.put d v).H = s.H := by cases d <;> exact ⟨rfl, rfl, rfl⟩

theorem effD_put (i : Nat) (e : Eff) (s : St) (d : Option Nat) (v : PV) : effD T wl L0 i e (s.put d v) = (effD T wl L0 i e s).map (·.put d v) := by
  cases e with
  | no => rfl
  | blk b => cases d <;> rfl
  | st t x y =>
    simp only [effD, (s.put_stack d v).1]
    cases storeS T wl t x y s.stack with
    | none => rfl
    | some S => cases S with
      | nil => rfl
      | cons L H => cases d <;> rfl
  | own t x y =>
    simp only [effD]
    unfold ownStore
    split
    · rename_i dd k off
      rw [(s.put_stack d v).2.2]
      split
      · rw [(s.put_stack d v).1]
        cases storeS T wl t (.ptr dd k off) y s.stack with
        | none => rfl
        | some S => cases S with
          | nil => rfl
          | cons L H => cases d <;> rfl
      · rfl
    · rfl
  | app k b => cases d <;> rfl

theorem appRead_at {args : Array Operand} {tys : Array TypeId} {s : St} {v : PV} {k : Nat} {b : Blk} (h : appRead T wl L0 args tys s = some (v, k, b)) :
    L0.length ≤ k ∧ ∃ p q t t' ti tj e e' n sz xs ys, args = #[p, q] ∧ tys[0]? = some t ∧ T t = some ti ∧ ti.td = .slice e ∧ tys[1]? = some t' ∧ T t' = some tj ∧ tj.td = .slice e' ∧
      s.eval p = .own s.depth k n sz ∧ s.L[k]? = some (.arr true sz xs) ∧ appendP T wl e (s.eval p) (s.eval q) s.stack s.depth s.L.length = some (.own s.depth k (xs ++ ys).length sz, fun S => setS S s.depth k (.arr true sz (xs ++ ys))) ∧
      v = .lst false (xs ++ ys) ∧ b = .arr false sz (xs ++ ys) := by
  unfold appRead at h
  split at h
  case h_2 => cases h
  rename_i a b' ti tj hargs ht0 ht1
  split at h
  case h_2 => cases h
  rename_i e e' htd htd'
  obtain ⟨t0, g0, ht⟩ := Option.bind_eq_some_iff.1 ht0
  obtain ⟨t1, g1, ht'⟩ := Option.bind_eq_some_iff.1 ht1
  obtain ⟨p, q, hl, hp, hq⟩ : ∃ p q, args.toList = [p, q] ∧ s.eval p = a ∧ s.eval q = b' := by
    cases hl : args.toList with
    | nil => rw [hl] at hargs; cases hargs
    | cons p l =>
      rw [hl] at hargs
      cases l with
      | nil => simp at hargs
      | cons q l =>
        simp only [List.map_cons, List.cons.injEq, List.map_eq_nil_iff] at hargs
        exact ⟨p, q, by rw [hargs.2.2], hargs.1, hargs.2.1⟩
  have hargs' : args = #[p, q] := by apply Array.ext'; simpa using hl
  cases ha : appendP T wl e a b' s.stack s.depth s.L.length with
  | none => rw [ha] at h; cases h
  | some r =>
  obtain ⟨pv, g⟩ := r
  rw [ha] at h
  have ha0 := ha
  cases pv with
  | own d' k' n sz =>
    simp only [appOut] at h
    split at h
    case isFalse => cases h
    rename_i hh
    obtain ⟨rfl, h1, h2⟩ := hh
    unfold appendP at ha
    cases he : T e with
    | none => rw [he] at ha; cases ha
    | some ei =>
    rw [he] at ha
    simp only [] at ha
    split at ha
    · cases ha
    · rename_i ys _
      split at ha
      · split at ha
        · split at ha
          · injection ha with ha; simp only [Prod.mk.injEq] at ha; cases ha.1
          · injection ha with ha; simp only [Prod.mk.injEq, PV.own.injEq] at ha; omega
        · cases ha
      · rename_i d1 k1 n1 sz1
        split at ha
        · rename_i sz' xs hB
          split at ha
          · rename_i hc
            obtain ⟨rfl, rfl, _⟩ := hc
            injection ha with ha
            simp only [Prod.mk.injEq, PV.own.injEq] at ha
            obtain ⟨⟨rfl, rfl, rfl, rfl⟩, rfl⟩ := ha
            have hat : atS s.stack s.depth k1 = s.L[k1]? := atS_top s.L s.H k1
            rw [hat] at hB
            have hset : setS s.stack s.depth k1 (.arr true sz' (xs ++ ys)) = s.L.set k1 (.arr true sz' (xs ++ ys)) :: s.H := by simp [St.stack, St.depth, setS]
            simp only [] at h
            rw [hset] at h
            simp only [List.getElem?_set, h2, if_true, List.length_append, and_self, if_true, Option.some.injEq, Prod.mk.injEq] at h
            obtain ⟨rfl, rfl, rfl⟩ := h
            refine ⟨h1, p, q, t0, t1, ti, tj, e, e', _, _, xs, ys, hargs', g0, ht, htd, g1, ht', htd', hp, hB, ?_, rfl, rfl⟩
            rw [hp, hq, List.length_append]
            exact ha0
          · cases ha
        · cases ha
      · cases ha
  | _ => cases h

theorem put_comm (s : St) {d e : Option Nat} (v u : PV) (h : ∀ x, d = some x → e ≠ some x) : (s.put d v).put e u = (s.put e u).put d v := by
  cases d with
  | none => rfl
  | some d =>
    cases e with
    | none => rfl
    | some e =>
      have hne : d ≠ e := fun he => h d rfl (he ▸ rfl)
      simp only [St.put]
      congr 1
      funext t
      unfold upd
      by_cases h1 : t = d <;> by_cases h2 : t = e
      · exact absurd (h1 ▸ h2) hne
      · simp [h1, hne]
      · simp [h2, hne.symm]
      · simp [h1, h2]

theorem isRead_uses {op : Op} (h : isRead op = true) : usesState op = true ∧ isMake op = false ∧ isStore op = false := by
  cases op <;> first | exact ⟨rfl, rfl, rfl⟩ | cases h

theorem isMake_uses {op : Op} (h : isMake op = true) : usesState op = true ∧ isRead op = false := by
  cases op <;> first | exact ⟨rfl, rfl⟩ | cases h

theorem newSt_store {o : Oper} (h : newSt ops o = true) : isStore o.op = true := by
  unfold newSt at h
  split at h
  · rename_i ho; rw [ho]; rfl
  · cases h

theorem store_late {o : Oper} (h : isStore o.op = true) : lateOf ops o = false := by
  unfold lateOf
  have : isRead o.op = false := by
    cases ho : o.op <;> rw [ho] at h <;> first | rfl | cases h
  rw [this]
  rfl

/-- What an effect tells of its operation. -/
structure Kind (ops : Array Oper) (L0 : List Blk) (o : Oper) (s : St) (e : Eff) : Prop where
  st : ∀ t x y, e = .st t x y → hard ops o = true
  blk : ∀ b, e = .blk b → usesNow ops o = true ∧ (isMake o.op = true ∨ isCallV o.op = true)
  own : ∀ t x y, e = .own t x y → newSt ops o = true
  app : ∀ k b, e = .app k b → isApp o.op = true ∧ L0.length ≤ k ∧ k < s.L.length ∧ s.L[k]? ≠ some .gone

theorem Kind.no {o : Oper} {s : St} : Kind ops L0 o s .no := ⟨fun _ _ _ h => (by cases h), fun _ h => (by cases h), fun _ _ _ h => (by cases h), fun _ _ h => (by cases h)⟩

theorem whatD_kind {i : Nat} {o : Oper} {s : St} {r : OpR} {e : Eff} (h : whatD T O wl ops L0 i o s = some (r, e)) : Kind ops L0 o s e := by
  unfold whatD at h
  split at h
  · split at h
    · unfold readS at h
      cases hl : lateOf ops o with
      | true =>
        rw [hl] at h
        obtain ⟨q, _, h⟩ := Option.map_eq_some_iff.1 h
        simp only [Prod.mk.injEq] at h
        obtain ⟨_, rfl⟩ := h
        exact .no
      | false =>
        rw [hl] at h
        cases hn : newSt ops o with
        | true =>
          rw [hn] at h
          simp only [cond_false, cond_true] at h
          unfold readOwn at h
          split at h
          · injection h with h
            simp only [Prod.mk.injEq] at h
            obtain ⟨_, rfl⟩ := h
            exact ⟨fun _ _ _ h => (by cases h), fun _ h => (by cases h), fun _ _ _ _ => hn, fun _ _ h => (by cases h)⟩
          · cases h
        | false =>
          rw [hn] at h
          simp only [cond_false] at h
          cases hsl : sealOp ops o with
          | true =>
           rw [hsl] at h
           simp only [cond_true] at h
           unfold readSeal at h
           split at h
           · rename_i ho
             have hu : usesNow ops o = true := by unfold usesNow; rw [hl, ho]; rfl
             unfold callRead at h
             split at h
             · split at h
               · split at h
                 · unfold retRead at h
                   split at h
                   · split at h
                     · injection h with h; simp only [Prod.mk.injEq] at h; rw [← h.2]; exact .no
                     · obtain ⟨q, _, h⟩ := Option.map_eq_some_iff.1 h
                       simp only [Prod.mk.injEq] at h
                       rw [← h.2]
                       exact ⟨fun _ _ _ h => (by cases h), fun _ _ => ⟨hu, .inr (by rw [ho]; rfl)⟩, fun _ _ _ h => (by cases h), fun _ _ h => (by cases h)⟩
                   · split at h
                     · injection h with h; simp only [Prod.mk.injEq] at h; rw [← h.2]; exact .no
                     · cases h
                   · cases h
                 · cases h
               · cases h
             · cases h
           · cases h
          | false =>
          rw [hsl] at h
          simp only [cond_false] at h
          unfold readD at h
          split at h
          · rename_i ho
            injection h with h
            simp only [Prod.mk.injEq] at h
            obtain ⟨_, rfl⟩ := h
            exact ⟨fun _ _ _ _ => (by unfold hard; rw [hn, ho]; rfl), fun b hb => (by cases hb), fun _ _ _ h => (by cases h), fun _ _ h => (by cases h)⟩
          · rename_i ho
            have hu : usesNow ops o = true := by unfold usesNow; rw [hl, ho]; rfl
            unfold callRead at h
            split at h
            · split at h
              · split at h
                · unfold retRead at h
                  split at h
                  · split at h
                    · injection h with h; simp only [Prod.mk.injEq] at h; rw [← h.2]; exact .no
                    · obtain ⟨q, _, h⟩ := Option.map_eq_some_iff.1 h
                      simp only [Prod.mk.injEq] at h
                      rw [← h.2]
                      exact ⟨fun _ _ _ h => (by cases h), fun _ _ => ⟨hu, .inr (by rw [ho]; rfl)⟩, fun _ _ _ h => (by cases h), fun _ _ h => (by cases h)⟩
                  · split at h
                    · injection h with h; simp only [Prod.mk.injEq] at h; rw [← h.2]; exact .no
                    · cases h
                  · cases h
                · cases h
              · cases h
            · cases h
          · rename_i ho
            obtain ⟨q, hq, h⟩ := Option.map_eq_some_iff.1 h
            simp only [Prod.mk.injEq] at h
            obtain ⟨_, rfl⟩ := h
            exact ⟨fun _ _ _ hb => (by cases hb), fun b hb => (by cases hb), fun _ _ _ h => (by cases h), fun k b hb => by
              injection hb with h1 h2
              subst h1
              obtain ⟨q1, _, _, _, _, _, _, _, _, _, _, _, _, _, _, _, _, _, _, _, _, q2, _⟩ := appRead_at hq
              exact ⟨by rw [ho]; rfl, q1, (List.getElem?_eq_some_iff.1 q2).1, by rw [q2]; simp⟩⟩
          · cases h
          · cases h
          · unfold readOther at h
            split at h
            · rename_i hm
              obtain ⟨q, _, h⟩ := Option.map_eq_some_iff.1 h
              simp only [Prod.mk.injEq] at h
              obtain ⟨_, rfl⟩ := h
              refine ⟨fun _ _ _ hb => (by cases hb), fun b _ => ⟨?_, .inl hm⟩, fun _ _ _ h => (by cases h), fun _ _ h => (by cases h)⟩
              unfold usesNow
              rw [(isMake_uses hm).1, hl]
              rfl
            · obtain ⟨q, _, h⟩ := Option.map_eq_some_iff.1 h
              simp only [Prod.mk.injEq] at h
              obtain ⟨_, rfl⟩ := h
              exact .no
    · injection h with h
      simp only [Prod.mk.injEq] at h
      obtain ⟨_, rfl⟩ := h
      exact .no
  · cases h

theorem setS_own {L : List Blk} {H : Heap} {k : Nat} {B : Blk} : setS (L :: H) H.length k B = L.set k B :: H := by simp [setS]

theorem storeS_own {t : Nat} {k off : Nat} {x : PV} {L : List Blk} {H S : Heap} (h : storeS T wl t (.ptr H.length k off) x (L :: H) = some S) : ∃ B, S = L.set k B :: H := by
  unfold storeS at h
  cases ht : T t with
  | none => rw [ht] at h; cases h
  | some ti =>
    rw [ht] at h
    simp only [] at h
    split at h
    · cases h
    · split at h
      · cases hB : atS (L :: H) H.length k with
        | none => rw [hB] at h; cases h
        | some B =>
          rw [hB] at h
          cases B with
          | box cs =>
            simp only [] at h
            split at h
            · injection h with h
              exact ⟨_, by rw [← h, setS_own]⟩
            · cases h
          | _ => cases h
      · cases h

theorem effD_H {i : Nat} {e : Eff} {s s' : St} (h : effD T wl L0 i e s = some s') (hn : ∀ t x y, e ≠ .st t x y) : s'.H = s.H := by
  cases e with
  | no => injection h with h; rw [h]
  | blk b => injection h with h; rw [← h]
  | st t x y => exact absurd rfl (hn t x y)
  | own t x y =>
    obtain ⟨d, k, off, S, rfl, rfl, _, hS, h2⟩ := ownStore_some h
    obtain ⟨B, rfl⟩ := storeS_own hS
    injection h2 with h2
    rw [← h2]
  | app k b => injection h with h; rw [← h]

theorem effD_comm {a i : Nat} (hne : a ≠ i) {ea ei : Eff} (h1 : (∃ t x y, ea = .st t x y) → ei = .no) (h2 : (∃ t x y, ei = .st t x y) → ea = .no) (h3 : (∃ t x y, ea = .own t x y) → ei = .no) (h4 : (∃ t x y, ei = .own t x y) → ea = .no)
    (h5 : (∃ k b, ea = .app k b) → ei = .no) (h6 : (∃ k b, ei = .app k b) → ea = .no) {s s1 s2 : St}
    (ha : effD T wl L0 a ea s = some s1) (hi : effD T wl L0 i ei s1 = some s2) : ∃ s1', effD T wl L0 i ei s = some s1' ∧ effD T wl L0 a ea s1' = some s2 := by
  cases ea with
  | no =>
    injection ha with ha
    subst ha
    exact ⟨s2, hi, rfl⟩
  | blk b =>
    cases ei with
    | no =>
      injection hi with hi
      subst hi
      exact ⟨s, rfl, ha⟩
    | blk c =>
      injection ha with ha
      subst ha
      injection hi with hi
      subst hi
      refine ⟨_, rfl, ?_⟩
      simp only [effD, Option.some.injEq]
      congr 1
      exact List.set_comm _ _ (by omega)
    | st t x y => cases h2 ⟨t, x, y, rfl⟩
    | own t x y => cases h4 ⟨t, x, y, rfl⟩
    | app k b => cases h6 ⟨k, b, rfl⟩
  | app k b =>
    have := h5 ⟨k, b, rfl⟩
    subst this
    injection hi with hi
    subst hi
    exact ⟨s, rfl, ha⟩
  | st t x y =>
    have := h1 ⟨t, x, y, rfl⟩
    subst this
    injection hi with hi
    subst hi
    exact ⟨s, rfl, ha⟩
  | own t x y =>
    have := h3 ⟨t, x, y, rfl⟩
    subst this
    injection hi with hi
    subst hi
    exact ⟨s, rfl, ha⟩

theorem step_some {i : Nat} {o : Oper} {s s' : St} {r : OpR} (h : stepDraw T O wl ops L0 i o s = some (r, s')) : ∃ e, whatD T O wl ops L0 i o s = some (r, e) ∧ effD T wl L0 i e s = some s' := by
  rw [stepDraw_what] at h
  obtain ⟨q, h1, h2⟩ := Option.bind_eq_some_iff.1 h
  obtain ⟨s1, h3, h4⟩ := Option.map_eq_some_iff.1 h2
  simp only [Prod.mk.injEq] at h4
  obtain ⟨rfl, rfl⟩ := h4
  exact ⟨q.2, h1, h3⟩

theorem step_of {i : Nat} {o : Oper} {s s' : St} {r : OpR} {e : Eff} (h1 : whatD T O wl ops L0 i o s = some (r, e)) (h2 : effD T wl L0 i e s = some s') : stepDraw T O wl ops L0 i o s = some (r, s') := by
  rw [stepDraw_what, h1]
  simp [h2]

theorem put_env_ne {s : St} {d : Option Nat} {v : PV} {t : Nat} (h : ∀ x, d = some x → x ≠ t) : (s.put d v).env t = s.env t := by
  cases d with
  | none => rfl
  | some d =>
    have := h d rfl
    have e : ¬ t = d := fun e => this e.symm
    simp only [St.put, upd, if_neg e]

theorem runIdx_swap (hd : drawOk ops = true) {a i : Nat} (hai : a < i) (hne : ((Region.before ops).getD i 0).testBit a = false) {l : List Nat} {s : St} {res : Ex × St}
    (h : runIdx T O wl ops L0 (a :: i :: l) s = some res) (hi : i < ops.size) : runIdx T O wl ops L0 (i :: a :: l) s = some res := by
  have hx : ops[a]? = some ops[a] := Array.getElem?_eq_getElem (by omega)
  have hy : ops[i]? = some ops[i] := Array.getElem?_eq_getElem hi
  generalize ops[a] = x at hx
  generalize ops[i] = y at hy
  simp only [runIdx, hx, hy] at h ⊢
  cases hA : stepDraw T O wl ops L0 a x s with
  | none => rw [hA] at h; cases h
  | some q =>
  obtain ⟨ra, s1⟩ := q
  rw [hA] at h
  cases ra with
  | panic v =>
    simp only [] at h
    split at h
    · rename_i hw
      rw [allWait_gt hw hai hi] at hne
      cases hne
    · cases h
  | val va =>
  simp only [] at h
  cases hI : stepDraw T O wl ops L0 i y (s1.put x.dst va) with
  | none => rw [hI] at h; cases h
  | some q =>
  obtain ⟨ri, s2⟩ := q
  rw [hI] at h
  cases ri with
  | panic v =>
    simp only [] at h
    split at h
    · rename_i hw
      rw [allWait_lt hw hai hi] at hne
      cases hne
    · cases h
  | val vi =>
  simp only [] at h
  obtain ⟨hfree, _⟩ := drawOk_spec hd hai hx hy
  have hfree := hfree.resolve_left (by rw [hne]; simp)
  unfold freeOf at hfree
  simp only [Bool.and_eq_true, Bool.not_eq_true', Bool.and_eq_false_iff, Bool.or_eq_false_iff] at hfree
  obtain ⟨⟨⟨⟨⟨⟨hap, hf1⟩, hf2⟩, hf3⟩, hf4⟩, hf5⟩, hf6⟩ := hfree
  simp only [Bool.not_eq_false'] at hf5 hf6
  obtain ⟨p1, p2, p3⟩ := Oper.apart_spec hap
  obtain ⟨ea, wa, fa⟩ := step_some hA
  obtain ⟨ei, wi, fi⟩ := step_some hI
  have ka := whatD_kind wa
  have ki := whatD_kind wi
  have hst : ∀ {z : Oper}, isStore z.op = true → usesNow ops z = true := fun {z} hs => by
    unfold usesNow
    rw [store_late hs]
    cases ho : z.op <;> rw [ho] at hs <;> first | rfl | cases hs
  have happ : ∀ {z : Oper}, isApp z.op = true → usesNow ops z = true := fun {z} hs => by
    unfold isApp at hs
    split at hs
    · rename_i ho
      unfold usesNow lateOf
      rw [ho]
      rfl
    · cases hs
  have hno : ∀ {z : Oper} {s : St} {e : Eff}, Kind ops L0 z s e →
      (usesNow ops z = false ∨ (isMake z.op = false ∧ isStore z.op = false ∧ isCallV z.op = false ∧ isApp z.op = false)) → e = .no := by
    intro z s e hk hu
    cases e with
    | no => rfl
    | blk b =>
      obtain ⟨k1, k2⟩ := hk.blk b rfl
      rcases hu with hu | ⟨hu, _, hu2, _⟩
      · rw [k1] at hu; cases hu
      · rcases k2 with k2 | k2
        · rw [k2] at hu; cases hu
        · rw [k2] at hu2; cases hu2
    | st t u v =>
      have hs : isStore z.op = true := by
        have := hk.st t u v rfl
        unfold hard at this
        simp only [Bool.and_eq_true] at this
        exact this.1
      rcases hu with hu | ⟨_, hu, _⟩
      · rw [hst hs] at hu; cases hu
      · rw [hs] at hu; cases hu
    | own t u v =>
      have hs := newSt_store (hk.own t u v rfl)
      rcases hu with hu | ⟨_, hu, _⟩
      · rw [hst hs] at hu; cases hu
      · rw [hs] at hu; cases hu
    | app k b =>
      have hs := (hk.app k b rfl).1
      rcases hu with hu | ⟨_, _, _, hu⟩
      · rw [happ hs] at hu; cases hu
      · rw [hs] at hu; cases hu
  have hq : ∀ {z : Oper}, quiet z.op = true → isMake z.op = false ∧ isStore z.op = false ∧ isCallV z.op = false ∧ isApp z.op = false := by
    intro z h
    unfold quiet at h
    simp only [Bool.and_eq_true, Bool.not_eq_true'] at h
    exact ⟨h.1.1.1, h.1.1.2, h.1.2, h.2⟩
  -- of an append and another one
  have hA5 : isApp x.op = true → ei = .no := fun h => hno ki (.inr (hq (hf5.resolve_left (by rw [h]; simp))))
  have hA6 : isApp y.op = true → ea = .no := fun h => hno ka (.inr (hq (hf6.resolve_left (by rw [h]; simp))))
  have h3 : newSt ops x = true → ei = .no := fun h => by
    have := hf3.resolve_left (by rw [h]; simp)
    by_cases hy' : isApp y.op = true
    · have e1 := hf6.resolve_left (by rw [hy']; simp)
      have := (hq e1).2.1
      rw [newSt_store h] at this
      cases this
    · exact hno ki (.inr ⟨this.1.1, this.1.2, this.2, by simpa using hy'⟩)
  have h4 : newSt ops y = true → ea = .no := fun h => by
    have := hf4.resolve_left (by rw [h]; simp)
    by_cases hx' : isApp x.op = true
    · have e1 := hf5.resolve_left (by rw [hx']; simp)
      have := (hq e1).2.1
      rw [newSt_store h] at this
      cases this
    · exact hno ka (.inr ⟨this.1.1, this.1.2, this.2, by simpa using hx'⟩)
  rw [effD_put] at fi
  obtain ⟨s2', fi', hs2⟩ := Option.map_eq_some_iff.1 fi
  obtain ⟨s1', g1, g2⟩ := effD_comm (T := T) (wl := wl) (L0 := L0) (a := a) (i := i) (by omega)
    (fun ⟨t, u, v, e⟩ => hno ki (.inl (hf1.resolve_left (by rw [ka.st t u v e]; simp)))) (fun ⟨t, u, v, e⟩ => hno ka (.inl (hf2.resolve_left (by rw [ki.st t u v e]; simp))))
    (fun ⟨t, u, v, e⟩ => h3 (ka.own t u v e)) (fun ⟨t, u, v, e⟩ => h4 (ki.own t u v e))
    (fun ⟨k, b, e⟩ => hA5 (ka.app k b e).1) (fun ⟨k, b, e⟩ => hA6 (ki.app k b e).1) fa fi'
  have wi' : whatD T O wl ops L0 i y s = some (.val vi, ei) := by
    rw [← wi]
    refine whatD_congr T O wl ops L0 (fun t ht => ?_) (fun hu hs => ?_) (fun hy' => ?_)
    · rw [put_env_ne (fun d hdd e => p1 d hdd (e ▸ ht)), effD_env fa]
    · rw [(s1.put_stack x.dst va).2.2]
      refine (effD_H fa (fun t u v e => ?_)).symm
      have := ka.st t u v e
      rcases hf1 with hf | hf
      · rw [this] at hf; cases hf
      · rw [hu] at hf; cases hf
    · rw [(s1.put_stack x.dst va).2.1]
      have := hA6 hy'
      subst this
      injection fa with fa
      rw [fa]
  have wa' : whatD T O wl ops L0 a x (s1'.put y.dst vi) = some (.val va, ea) := by
    rw [← wa]
    refine (whatD_congr T O wl ops L0 (fun t ht => ?_) (fun hu hs => ?_) (fun hx' => ?_)).symm
    · rw [put_env_ne (fun d hdd e => p3 d hdd (e ▸ ht)), effD_env g1]
    · rw [(s1'.put_stack y.dst vi).2.2]
      refine (effD_H g1 (fun t u v e => ?_)).symm
      have := ki.st t u v e
      rcases hf2 with hf | hf
      · rw [this] at hf; cases hf
      · rw [hu] at hf; cases hf
    · rw [(s1'.put_stack y.dst vi).2.1]
      have := hA5 hx'
      subst this
      injection g1 with g1
      rw [g1]
  rw [step_of wi' g1]
  simp only []
  rw [step_of wa' (by rw [effD_put, g2]; rfl)]
  simp only []
  rw [← h, ← hs2]
  congr 1
  exact (put_comm s2' va vi p2).symm

theorem runIdx_cons {i : Nat} {l l' : List Nat} {s : St} {res : Ex × St} (h : runIdx T O wl ops L0 (i :: l) s = some res) (hl : ∀ s', runIdx T O wl ops L0 l s' = some res → runIdx T O wl ops L0 l' s' = some res) :
    runIdx T O wl ops L0 (i :: l') s = some res := by
  unfold runIdx at h ⊢
  cases ho : ops[i]? with
  | none => rw [ho] at h; cases h
  | some o =>
    rw [ho] at h
    simp only [] at h ⊢
    cases hs : stepDraw T O wl ops L0 i o s with
    | none => rw [hs] at h; cases h
    | some q =>
      rw [hs] at h
      obtain ⟨r, s1⟩ := q
      cases r with
      | val v => exact hl _ h
      | panic v => exact h

theorem runIdx_first (hd : drawOk ops = true) {i : Nat} (hi : i < ops.size) : ∀ (A B : List Nat) (s : St) (res : Ex × St), (∀ a ∈ A, a < i ∧ ((Region.before ops).getD i 0).testBit a = false) →
    runIdx T O wl ops L0 (A ++ i :: B) s = some res → runIdx T O wl ops L0 (i :: (A ++ B)) s = some res
  | [], B, s, res, _, h => h
  | a :: A, B, s, res, hA, h => by
    obtain ⟨h1, h2⟩ := hA a (by simp)
    have := runIdx_cons (l' := i :: (A ++ B)) h (fun s' hs' => runIdx_first hd hi A B s' res (fun a ha => hA a (by simp [ha])) hs')
    exact runIdx_swap hd h1 h2 this hi

end
end Go.GL
