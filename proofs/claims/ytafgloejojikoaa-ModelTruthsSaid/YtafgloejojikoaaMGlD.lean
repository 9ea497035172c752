/-
  GL, part D: what holds between the interpreter's state and the machine's; an operation of a region whose order is the text's.
-/
import Derived.Test.YtafgloejojikoaaMGlC
import Derived.Tactics
set_option linter.unusedSimpArgs false
set_option linter.unusedVariables false
/-! GL, part D: what holds between the interpreter's state and the machine's; an operation of a region whose order is the text's. -/
namespace Go.GL

def Reps (F : FM) (φ : PM) (ps : List PV) (vs : List Value) : Prop := vs.length = ps.length ∧ ∀ (j : Nat) (c : PV) (v : Value), ps[j]? = some c → vs[j]? = some v → Rep F φ c v

def RelOut (F : FM) (φ : PM) : Out → Ending → Prop
  | .ret p, .returned v => Rep F φ p v
  | .panic p, .panicked c => ∃ v, c = [{ v, recovered := false }] ∧ Rep F φ p v
  | _, _ => False

/-- A call comes to an ending, whether the function has a body or not. -/
def Goes (P : Program) (f : FuncId) (vs : Array Value) (w : World) (R : Ending → World → Prop) : Prop :=
  match (callFunc f vs).run P w with
  | .ok (.enter g xs) w1 => Calls P g xs w1 R
  | .ok (.value v) w1 => R (.returned v) w1
  | .halt (.panic v) w1 => R (.panicked [{ v, recovered := false }]) w1
  | _ => False

theorem Goes.mono {P : Program} {f : FuncId} {vs : Array Value} {w : World} {R R' : Ending → World → Prop} (h : Goes P f vs w R) (hr : ∀ e w, R e w → R' e w) : Goes P f vs w R' := by
  unfold Goes at *
  split at h <;> first | exact Calls.mono h hr | exact hr _ _ h | exact h.elim

def CallOk (P : Program) (O : Orc) : Prop := ∀ f wl args H out H', O.call f wl args H = some (out, H') →
  ∀ F φ w (vs : Array Value), Inv F φ H w → Reps F φ args vs.toList → Goes P f vs w fun e w' => ∃ F' φ', Adv (fun d => wl ≤ d) F φ H w F' φ' H' w' ∧ Inv F' φ' H' w' ∧ RelOut F' φ' out e

/-- Slots. -/
structure EnvOk (n : Nat) (ds : List Deferred) (F : FM) (φ : PM) (s : St) (a : Act) : Prop where
  defers : a.defers = ds
  size : a.tmps.size = n
  rep : ∀ t, Rep F φ (s.env t) (a.tmps.getD t undef)

section
variable {P : Program} {T : Tab} {O : Orc} {n : Nat} {ds : List Deferred} {F : FM} {φ : PM} {s : St} {a : Act} {w : World}

theorem EnvOk.eval (h : EnvOk n ds F φ s a) (x : Operand) : Rep F φ (s.eval x) (a.eval x) := by
  cases x with
  | tmp t => exact h.rep t
  | const v => exact rep_ofV F φ v
  | global g => exact .junk _
  | func f => exact .func (.func f) [] [] #[] #[] rfl rfl (by simp) (by simp)

theorem EnvOk.mono {F' : FM} {φ' : PM} {s' : St} (h : EnvOk n ds F φ s a) (hF : FM.le F F') (hφ : PM.le φ φ') (he : s'.env = s.env) : EnvOk n ds F' φ' s' a :=
  ⟨h.defers, h.size, fun t => by rw [he]; exact (h.rep t).mono hF hφ⟩

theorem EnvOk.put (h : EnvOk n ds F φ s a) {dst : Option Nat} (hd : ∀ d, dst = some d → d < n) {p : PV} {v : Value} (hr : Rep F φ p v) : EnvOk n ds F φ (s.put dst p) (a.put dst v) := by
  cases dst with
  | none => exact h
  | some d =>
    refine ⟨h.defers, by simpa [Act.put] using h.size, fun t => ?_⟩
    simp only [St.put, upd, Act.put]
    by_cases e : t = d
    · subst e
      have := hd t rfl
      rw [← h.size] at this
      simpa [Array.getD_eq_getD_getElem?, Array.getElem?_setIfInBounds, this] using hr
    · have := h.rep t
      simp only [e, if_false]
      have e' : ¬ d = t := fun h => e h.symm
      simpa [Array.getD_eq_getD_getElem?, Array.getElem?_setIfInBounds, e'] using this

/-- What an operation's step must come to. -/
def StepTo (P : Program) (n : Nat) (W : Nat → Prop) (F : FM) (φ : PM) (s : St) (a : Act) (w : World) (o : Oper) (r : OpR) (s' : St) : Prop :=
  ∀ (K : Act → World → Prop) (Q : Exit → Act → World → Prop),
    (∀ p, r = .val p → ∀ F' φ' w' u, Adv W F φ s.stack w F' φ' s'.stack w' → Inv F' φ' s'.stack w' → Rep F' φ' p u → K (a.put o.dst u) w') →
    (∀ p, r = .panic p → ∀ F' φ' w' u, Adv W F φ s.stack w F' φ' s'.stack w' → Inv F' φ' s'.stack w' → Rep F' φ' p u → Q (.panic [{ v := u, recovered := false }]) a w') →
    o.wp P a w K Q

theorem StepTo.of_tells {W : Nat → Prop} {o : Oper} {r : OpR} (hI : Inv F φ s.stack w) (h : TellsN P F φ w (execOp a.eval o) r) : StepTo P n W F φ s a w o r s := by
  intro K Q hK hQ
  cases r with
  | val p =>
    obtain ⟨u, hu, hr⟩ := h
    unfold Oper.wp
    rw [hu]
    exact hK p rfl F φ w u (Adv.refl _ _ _ _ _) hI hr
  | panic p =>
    obtain ⟨u, w', hu, hq, hr⟩ := h
    unfold Oper.wp
    rw [hu]
    exact hQ p rfl F φ w' u (Adv.same hq.heap hq.os hq.tape hq.output) (hI.same hq.heap) hr

theorem StepTo.of_made {W : Nat → Prop} {o : Oper} {p : PV} {s' : St} {x : Sem Value} (hx : execOp a.eval o = (do pure (.value (← x)))) (h : Made P W F φ s.stack s'.stack w x p) : StepTo P n W F φ s a w o (.val p) s' := by
  intro K Q hK hQ
  obtain ⟨u, w', F', φ', h1, h2, h3, h4⟩ := h
  unfold Oper.wp
  rw [hx]
  simp only [Sem.run_bind, h1, Result.andThen_ok, Sem.run_pure, Oper.upon_value]
  exact hK p rfl F' φ' w' u h2 h3 h4

theorem buildSlice_ok (hT : TOk P T) {S S' : Heap} (hI : Inv F φ S w) {W : Nat → Prop} {ρ : Operand → Value} (he : ∀ x, Rep F φ (s.eval x) (ρ x)) {S0 : Heap} {d k : Nat} {t e : Nat} {ti ei : TI} (ht : T t = some ti) (htd : ti.td = .slice e) (hte : T e = some ei)
    {len : Nat} {parts : Array (Nat × Operand)} {vs xs : List PV}
    (hfr : ∀ k' live sz xs, k' ∈ ownsL d (parts.toList.map fun p => s.eval p.2) → atS S0 d k' = some (.arr live sz xs) → (true && live) = false → atS S d k' = some (.arr false sz xs))
    (hvs : frzL S0 d true (parts.toList.map fun p => s.eval p.2) = some vs) (hz : isData ei.zero = true) (hlim : len * ei.size ≤ 16777216)
    (hxs : fillE ei.size len ((parts.toList.map (·.1)).zip vs) (List.replicate len ei.zero) = some xs) (hS : Lays S S' d k .gone) :
    Made P W F φ S S' w (Instr.buildSlice t len (parts.map fun (i, x) => (i, ρ x))) (.lst true xs) := by
  have f0 : ∀ (j : Nat) (c : PV) (v : Value), (parts.toList.map fun p => s.eval p.2)[j]? = some c → (parts.toList.map fun p => ρ p.2)[j]? = some v → Rep F φ c v := by
    intro j c v hc hv
    rw [List.getElem?_map] at hc hv
    obtain ⟨q, h1, rfl⟩ := Option.map_eq_some_iff.1 hc
    rw [h1] at hv
    injection hv with hv
    subst hv
    exact he _
  have fl : (parts.toList.map fun p => ρ p.2).length = (parts.toList.map fun p => s.eval p.2).length := by simp only [List.length_map]
  obtain ⟨f1, f2, _⟩ := frzL_rep (φ := φ) (ro := true) hI _ hfr hvs fl f0
  have g1 : ((parts.toList.map (·.1)).zip vs).length = (parts.map fun (x : Nat × Operand) => (x.1, ρ x.2)).toList.length := by
    simp only [List.length_zip, List.length_map, f1, Array.toList_map, Nat.min_self]
  refine make_build hT hI W ht htd hte hz hlim g1 (fun j p v hp hv => ?_) hxs hS
  rw [List.getElem?_zip_eq_some] at hp
  obtain ⟨h1, h2⟩ := hp
  rw [Array.toList_map, List.getElem?_map] at hv
  rw [List.getElem?_map] at h1
  obtain ⟨q, hq, rfl⟩ := Option.map_eq_some_iff.1 hv
  rw [hq] at h1
  injection h1 with h1
  exact ⟨h1.symm, f2 j p.2 _ h2 (by rw [List.getElem?_map, hq]; rfl)⟩

/-- What is made in a frame, an operation's operands told. -/
theorem makeOp_ok (hT : TOk P T) {S S' : Heap} (hI : Inv F φ S w) {W : Nat → Prop} {o : Oper} {ρ : Operand → Value} (he : ∀ x, Rep F φ (s.eval x) (ρ x)) {S0 : Heap} {d k : Nat} {v : PV} {B : Blk} (h : makeOp T o s S0 d k = some (v, B))
    (hfr : ∀ t len parts, o.op = .buildSlice t len parts → ∀ k' live sz xs, k' ∈ ownsL d (parts.toList.map fun p => s.eval p.2) → atS S0 d k' = some (.arr live sz xs) → (true && live) = false → atS S d k' = some (.arr false sz xs))
    (hd : d + 1 = S.length) (hS : Lays S S' d k B) : ∃ x : Sem Value, execOp ρ o = (do pure (.value (← x))) ∧ Made P W F φ S S' w x v := by
  obtain ⟨dst, op, ty, pos, after, gd⟩ := o
  cases op with
  | alloc t =>
    simp only [makeOp] at h
    obtain ⟨ti, ht, h⟩ := Option.map_eq_some_iff.1 h
    simp only [Prod.mk.injEq] at h
    obtain ⟨rfl, rfl⟩ := h
    exact ⟨_, rfl, make_alloc hT hI W ht hd hS⟩
  | box t x =>
    simp only [makeOp] at h
    cases ht : T t with
    | none => rw [ht] at h; cases h
    | some ti =>
      rw [ht] at h
      simp only [] at h
      split at h
      · rename_i hh
        injection h with h
        simp only [Prod.mk.injEq] at h
        obtain ⟨rfl, rfl⟩ := h
        exact ⟨_, rfl, make_box' hI W (he x) hh.2 hd hS⟩
      · cases h
  | buildSlice t len parts =>
    simp only [makeOp] at h
    cases ht : T t with
    | none => rw [ht] at h; cases h
    | some ti =>
      rw [ht] at h
      simp only [] at h
      split at h
      · rename_i e htd
        cases hte : T e with
        | none => rw [hte] at h; cases h
        | some ei =>
          rw [hte] at h
          simp only [] at h
          split at h
          · rename_i vs hvs
            split at h
            · rename_i hh
              obtain ⟨xs, hxs, h⟩ := Option.map_eq_some_iff.1 h
              simp only [Prod.mk.injEq] at h
              obtain ⟨rfl, rfl⟩ := h
              exact ⟨_, rfl, buildSlice_ok hT hI he ht htd hte (hfr t len parts rfl) hvs hh.1 hh.2.2 hxs hS⟩
            · cases h
          · cases h
      · cases h
  | makeSlice t l c =>
    simp only [makeOp] at h
    split at h
    · rename_i ti kl l' kc c' ht hl hc
      split at h
      · rename_i e htd
        cases hte : T e with
        | none => rw [hte] at h; cases h
        | some ei =>
          rw [hte] at h
          simp only [] at h
          split at h
          · rename_i hh
            obtain ⟨h1, h2, h3, h4, h5, h6⟩ := hh
            injection h with h
            simp only [Prod.mk.injEq] at h
            obtain ⟨rfl, rfl⟩ := h
            have e1 := he l
            have e2 := he c
            rw [hl] at e1
            rw [hc] at e2
            have := make_slice hT hI W ht htd hte (kl := kl) (kc := kc) h1 h2 h3 h4 h5 hS
            rw [← rep_int e1, ← rep_int e2] at this
            exact ⟨_, rfl, this⟩
          · cases h
      · cases h
    · cases h
  | makeMap t r =>
    cases r with
    | some r => simp [makeOp] at h
    | none =>
      simp only [makeOp] at h
      cases ht : T t with
      | none => rw [ht] at h; cases h
      | some ti =>
        rw [ht] at h
        simp only [] at h
        split at h
        · rename_i kt et htd
          cases hk : T kt with
          | none => rw [hk] at h; cases h
          | some ki =>
            rw [hk] at h
            injection h with h
            simp only [Prod.mk.injEq] at h
            obtain ⟨rfl, rfl⟩ := h
            exact ⟨_, rfl, make_map hI W hS.1 hS.2.1 hS.2.2⟩
        · cases h
  | _ => simp [makeOp] at h

end
end Go.GL
