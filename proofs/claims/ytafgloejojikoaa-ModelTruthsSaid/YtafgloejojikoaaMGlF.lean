/-
  GL, part F: an operation of a region whose order is the text's.
-/
import Derived.Test.YtafgloejojikoaaMGlD
set_option linter.unusedSimpArgs false
set_option linter.unusedVariables false
/-! GL, part F: an operation of a region whose order is the text's. -/
namespace Go.GL

section
variable {P : Program} {T : Tab} {O : Orc} {n : Nat} {ds : List Deferred} {F : FM} {φ : PM} {s : St} {a : Act} {w : World}

theorem shut_at {L : List Blk} {H : Heap} {ps : List PV} {k : Nat} {live : Bool} {sz : Nat} {xs : List PV} (hk : k ∈ ownsL H.length ps) (h : atS (L :: H) H.length k = some (.arr live sz xs)) :
    atS (shutL H.length ps L :: H) H.length k = some (.arr false sz xs) := by
  rw [atS_top] at h ⊢
  rw [shutL_get, if_pos hk, h]
  rfl

theorem Reps.append {ps qs : List PV} {vs us : List Value} (h : Reps F φ ps vs) (g : Reps F φ qs us) : Reps F φ (ps ++ qs) (vs ++ us) := by
  refine ⟨by simp [h.1, g.1], fun j c v hc hv => ?_⟩
  by_cases hj : j < ps.length
  · rw [List.getElem?_append_left hj] at hc
    rw [List.getElem?_append_left (by rw [h.1]; exact hj)] at hv
    exact h.2 j c v hc hv
  · rw [List.getElem?_append_right (by omega)] at hc
    rw [List.getElem?_append_right (by rw [h.1]; omega), h.1] at hv
    exact g.2 _ c v hc hv

/-- What is called. -/
theorem target_ok (hE : EnvOk n ds F φ s a) {f : Operand} {args : Array Operand} {g : FuncId} {ps : List PV} (h : targetOf (s.eval f) (args.toList.map s.eval) = some (g, ps)) :
    ∃ (fs us : Array Value), a.eval f = .func (.func g) fs us ∧ Reps F φ ps (fs ++ args.map a.eval ++ us).toList := by
  unfold targetOf at h
  split at h
  · rename_i g' first cap hf
    injection h with h
    simp only [Prod.mk.injEq] at h
    obtain ⟨rfl, rfl⟩ := h
    have hr := hE.eval f
    rw [hf] at hr
    generalize hu : a.eval f = u at hr
    cases hr with
    | data p v hl h => simp [isLeaf] at hl
    | func f fs cs vs us hl hm h g =>
      refine ⟨vs, us, rfl, ?_⟩
      have h1 : Reps F φ first vs.toList := ⟨by simpa using hl, fun j c v hc hv => h j c v hc (by simpa using hv)⟩
      have h2 : Reps F φ cap us.toList := ⟨by simpa using hm, fun j c v hc hv => g j c v hc (by simpa using hv)⟩
      have h3 : Reps F φ (args.toList.map s.eval) (args.map a.eval).toList := by
        have := listRep hE.eval args.toList
        exact ⟨by simp, fun j c v hc hv => this.2 j c v hc (by simpa using hv)⟩
      simpa using (h1.append h3).append h2
  · cases h

theorem exec_call {ρ : Operand → Value} {dst ty pos after gd} {f : Operand} {args : Array Operand} {tys : Array TypeId} {g : FuncId} {fs us : Array Value} (h : ρ f = .func (.func g) fs us) :
    execOp ρ ⟨dst, .call ⟨.value f, args, tys⟩, ty, pos, after, gd⟩ = callFunc g (fs ++ args.map ρ ++ us) := by
  simp [execOp, resolve, h, Deferred.ofValue, invoke]

/-- A call's step. -/
theorem StepTo.of_goes {W : Nat → Prop} {o : Oper} {g : FuncId} {vs : Array Value} {r : OpR} {out : Out} {s' : St} (hx : execOp a.eval o = callFunc g vs)
    (hr : match out, r with | .ret v, .val u => v = u | .panic v, .panic u => v = u | _, _ => False)
    (h : Goes P g vs w fun e w' => ∃ F' φ', Adv W F φ s.stack w F' φ' s'.stack w' ∧ Inv F' φ' s'.stack w' ∧ RelOut F' φ' out e) : StepTo P n W F φ s a w o r s' := by
  intro K Q hK hQ
  have fin : ∀ e w', (∃ F' φ', Adv W F φ s.stack w F' φ' s'.stack w' ∧ Inv F' φ' s'.stack w' ∧ RelOut F' φ' out e) → match e, w' with
    | .returned v, w'' => K (a.put o.dst v) w''
    | .panicked chain, w'' => Q (.panic chain) a w''
    | .outgrown, _ => LetsOut Q := by
    rintro e w' ⟨F', φ', h1, h2, h3⟩
    cases out with
    | ret v =>
      cases r with
      | val u =>
        simp only [] at hr
        subst hr
        cases e with
        | returned x => exact hK v rfl F' φ' w' x h1 h2 h3
        | panicked c => exact h3.elim
        | outgrown => exact h3.elim
      | panic u => exact hr.elim
    | panic v =>
      cases r with
      | val u => exact hr.elim
      | panic u =>
        simp only [] at hr
        subst hr
        cases e with
        | returned x => exact h3.elim
        | panicked c =>
          obtain ⟨x, rfl, h4⟩ := h3
          exact hQ v rfl F' φ' w' x h1 h2 h4
        | outgrown => exact h3.elim
  unfold Oper.wp
  rw [hx]
  unfold Goes at h
  split at h
  · rename_i hh
    rw [hh]
    exact Calls.mono h fin
  · rename_i hh
    rw [hh]
    exact fin _ _ h
  · rename_i hh
    rw [hh]
    exact fin _ _ h
  · exact h.elim

theorem withStack_some {S : Heap} {s' : St} (h : withStack s S = some s') : s'.stack = S ∧ s'.env = s.env := by
  cases S with
  | nil => cases h
  | cons L H => simp only [withStack, Option.some.injEq] at h; subst h; exact ⟨rfl, rfl⟩

theorem withStack_map {S : Heap} {α : Type} {x : α} {q : α × St} (h : (withStack s S).map (fun s => (x, s)) = some q) : q.1 = x ∧ q.2.stack = S ∧ q.2.env = s.env := by
  obtain ⟨s', h1, rfl⟩ := Option.map_eq_some_iff.1 h
  exact ⟨rfl, withStack_some h1⟩

theorem callOp_ok (hO : CallOk P O) {W : Nat → Prop} {wl : Nat} (hW : ∀ d, wl ≤ d ∨ d = s.depth → W d) (hI : Inv F φ s.stack w) (hE : EnvOk n ds F φ s a) {dst ty pos after gd} {f : Operand} {args : Array Operand} {tys : Array TypeId} {r : OpR} {s' : St}
    (h : callOp O wl f args s = some (r, s')) : StepTo P n W F φ s a w ⟨dst, .call ⟨.value f, args, tys⟩, ty, pos, after, gd⟩ r s' ∧ s'.env = s.env := by
  unfold callOp at h
  split at h
  · rename_i g ps htg
    obtain ⟨fs, us, hf, hreps⟩ := target_ok hE htg
    split at h
    · rename_i ps' hfz
      obtain ⟨F1, a1, i1⟩ := hI.shutL W (hW _ (.inr rfl)) s.depth ps
      obtain ⟨e1, e2, _⟩ := frzL_rep (φ := φ) i1 ps (S := s.stack) (d := s.depth) (ro := false) (fun k live sz xs hk hB _ => shut_at hk hB) hfz hreps.1 (fun j c v hc hv => (hreps.2 j c v hc hv).mono a1.fm a1.pm)
      have fin : ∀ {out S}, O.call g wl ps' (shutL s.depth ps s.L :: s.H) = some (out, S) → s'.stack = S →
          Goes P g (fs ++ args.map a.eval ++ us) w fun e w' => ∃ F' φ', Adv W F φ s.stack w F' φ' s'.stack w' ∧ Inv F' φ' s'.stack w' ∧ RelOut F' φ' out e := by
        intro out S hc hs
        refine (hO g wl ps' _ out S hc F1 φ w _ i1 ⟨by rw [e1]; exact hreps.1, e2⟩).mono ?_
        rintro e w' ⟨F', φ', h1, h2, h3⟩
        rw [hs]
        exact ⟨F', φ', a1.trans (h1.weak fun d hd => hW d (.inl hd)), h2, h3⟩
      split at h
      · rename_i v S hc
        obtain ⟨q1, q2, q3⟩ := withStack_map h
        simp only [] at q1 q2 q3
        subst q1
        exact ⟨.of_goes (exec_call hf) rfl (fin hc q2), q3⟩
      · rename_i v S hc
        obtain ⟨q1, q2, q3⟩ := withStack_map h
        simp only [] at q1 q2 q3
        subst q1
        exact ⟨.of_goes (exec_call hf) rfl (fin hc q2), q3⟩
      · cases h
    · cases h
  · cases h

theorem appendOp_ok (hT : TOk P T) {W : Nat → Prop} {wl : Nat} (hW : ∀ d, wl ≤ d ∨ d = s.depth → W d) (hI : Inv F φ s.stack w) (hE : EnvOk n ds F φ s a) {dst ty pos after gd} {args : Array Operand} {tys : Array TypeId} {r : OpR} {s' : St}
    (h : appendOp T wl args tys s = some (r, s')) : StepTo P n W F φ s a w ⟨dst, .call ⟨.builtin .append, args, tys⟩, ty, pos, after, gd⟩ r s' ∧ s'.env = s.env := by
  unfold appendOp at h
  split at h
  · rename_i x y ti tj hargs ht0 ht1
    obtain ⟨t0, g0, ht⟩ := Option.bind_eq_some_iff.1 ht0
    obtain ⟨t1, g1, ht'⟩ := Option.bind_eq_some_iff.1 ht1
    split at h
    · rename_i e e' htd htd'
      split at h
      · rename_i v g hap
        obtain ⟨q1, q2, q3⟩ := withStack_map h
        simp only [] at q1 q2 q3
        subst q1
        have ha : ∃ p q, args.toList = [p, q] ∧ s.eval p = x ∧ s.eval q = y := by
          cases hl : args.toList with
          | nil => rw [hl] at hargs; cases hargs
          | cons p l =>
            rw [hl] at hargs
            cases l with
            | nil => simp at hargs
            | cons q l =>
              simp only [List.map_cons, List.cons.injEq, List.map_eq_nil_iff] at hargs
              exact ⟨p, q, by rw [hargs.2.2], hargs.1, hargs.2.1⟩
        obtain ⟨p, q, hl, hp, hq⟩ := ha
        have hargs' : args = #[p, q] := by apply Array.ext'; simpa using hl
        subst hargs'
        have r0 := hE.eval p
        have r1 := hE.eval q
        rw [hp] at r0
        rw [hq] at r1
        have := append_ok (W := W) hT hI hW ht htd ht' htd' r0 r1 hap ty
        refine ⟨?_, q3⟩
        obtain ⟨u, w', F', φ', h1, h2, h3, h4, _⟩ := this
        intro K Q hK hQ
        have e0 : Builtin.append_ tys ty #[a.eval p, a.eval q] = Builtin.append_ #[t0, t1] ty #[a.eval p, a.eval q] := by
          simp [Builtin.append_, g0, g1]
        unfold Oper.wp
        simp only [execOp, resolve, invoke, builtin, Sem.run_bind, Sem.run_pure, Result.andThen_ok]
        have e2 : (#[p, q].map a.eval) = #[a.eval p, a.eval q] := by simp
        rw [e2, e0]
        simp only [h1, Result.andThen_ok, Oper.upon_value]
        refine hK v rfl F' φ' w' u ?_ ?_ h4
        · rw [q2]; exact h2
        · rw [q2]; exact h3
      · cases h
    · cases h
  · cases h

theorem storeOp_ok (hT : TOk P T) {W : Nat → Prop} {wl : Nat} (hW : ∀ d, wl ≤ d ∨ d = s.depth → W d) (hI : Inv F φ s.stack w) (hE : EnvOk n ds F φ s a) {dst ty pos after gd} {t : Nat} {x y : Operand} {r : OpR} {s' : St}
    (h : storeOp T wl t x y s = some (r, s')) : StepTo P n W F φ s a w ⟨dst, .store t x y, ty, pos, after, gd⟩ r s' ∧ s'.env = s.env := by
  unfold storeOp at h
  obtain ⟨S, hS, h⟩ := Option.bind_eq_some_iff.1 h
  obtain ⟨q1, q2, q3⟩ := withStack_map h
  simp only [] at q1 q2 q3
  subst q1
  obtain ⟨w', h1, h2, h3⟩ := storeS_ok (W := W) hT hI (fun d hd => hW d (hd.imp id fun e => by
    have : s.stack.length = s.depth + 1 := rfl
    omega)) (hE.eval x) (hE.eval y) hS
  refine ⟨?_, q3⟩
  intro K Q hK hQ
  unfold Oper.wp
  simp only [execOp, Sem.run_bind, h1, Result.andThen_ok, Sem.run_pure, Oper.upon_skip]
  refine hK _ rfl F φ w' undef ?_ ?_ (rep_undef _ _)
  · rw [q2]; exact h2
  · rw [q2]; exact h3

theorem mapOp_ok (hT : TOk P T) {W : Nat → Prop} {wl : Nat} (hW : ∀ d, wl ≤ d ∨ d = s.depth → W d) (hI : Inv F φ s.stack w) (hE : EnvOk n ds F φ s a) {o : Oper} {t : Nat} {m k x : Operand} (ho : ∀ ρ, execOp ρ o = (do Instr.mapUpdate t (ρ m) (ρ k) (ρ x); pure .skip)) {r : OpR} {s' : St}
    (h : mapOp T wl t m k x s = some (r, s')) : StepTo P n W F φ s a w o r s' ∧ s'.env = s.env := by
  unfold mapOp at h
  obtain ⟨S, hS, h⟩ := Option.bind_eq_some_iff.1 h
  obtain ⟨q1, q2, q3⟩ := withStack_map h
  simp only [] at q1 q2 q3
  subst q1
  obtain ⟨w', h1, h2, h3⟩ := mapS_ok (W := W) hT hI (fun d hd => hW d (hd.imp id fun e => by
    have : s.stack.length = s.depth + 1 := rfl
    omega)) (hE.eval m) (hE.eval k) (hE.eval x) hS
  refine ⟨?_, q3⟩
  intro K Q hK hQ
  unfold Oper.wp
  rw [ho]
  simp only [Sem.run_bind, h1, Result.andThen_ok, Sem.run_pure, Oper.upon_skip]
  refine hK _ rfl F φ w' undef ?_ ?_ (rep_undef _ _)
  · rw [q2]; exact h2
  · rw [q2]; exact h3

theorem makeOpR_ok (hT : TOk P T) {W : Nat → Prop} (hW : W s.depth) (hI : Inv F φ s.stack w) (hE : EnvOk n ds F φ s a) {o : Oper} {r : OpR} {s' : St}
    (h : makeOpR T o s = some (r, s')) : StepTo P n W F φ s a w o r s' ∧ s'.env = s.env := by
  unfold makeOpR at h
  split at h
  · rename_i v B hm
    injection h with h
    simp only [Prod.mk.injEq] at h
    obtain ⟨rfl, rfl⟩ := h
    refine ⟨?_, rfl⟩
    have hlen : (shutOps s o.op).length = s.L.length := by
      unfold shutOps
      split
      · have : ∀ (ps : List PV) (L : List Blk), (shutL s.depth ps L).length = L.length := by
          intro ps L
          have h := shutL_get s.depth ps L
          rcases Nat.lt_trichotomy (shutL s.depth ps L).length L.length with h1 | h1 | h1
          · have := h (shutL s.depth ps L).length
            rw [List.getElem?_eq_none (Nat.le_refl _), List.getElem?_eq_getElem h1] at this
            split at this <;> simp at this
          · exact h1
          · have := h L.length
            rw [List.getElem?_eq_none (Nat.le_refl L.length), List.getElem?_eq_getElem h1] at this
            split at this <;> simp at this
        exact this _ _
      · rfl
    have hsh : ∃ F1, Adv W F φ s.stack w F1 φ (shutOps s o.op :: s.H) w ∧ Inv F1 φ (shutOps s o.op :: s.H) w := by
      unfold shutOps
      split
      · exact hI.shutL W hW _ _
      · exact ⟨F, Adv.refl _ _ _ _ _, hI⟩
    obtain ⟨F1, a1, i1⟩ := hsh
    obtain ⟨x, hx, hmade⟩ := makeOp_ok (S' := (shutOps s o.op ++ [B]) :: s.H) (W := W) hT i1 (fun x => (hE.eval x).mono a1.fm a1.pm) hm (by
      intro t len parts ho k' live sz xs hk hB hl
      have : live = false := by simpa using hl
      subst this
      exact hB) (by rfl) (by
      refine ⟨rfl, .inl ?_, ?_⟩
      · have := at_free (shutOps s o.op) s.H
        rw [hlen] at this
        exact this
      · have := at_push (shutOps s o.op) s.H B
        rw [hlen] at this
        exact this)
    refine StepTo.of_made hx ?_
    obtain ⟨u, w', F', φ', h1, h2, h3, h4⟩ := hmade
    exact ⟨u, w', F', φ', h1, a1.trans h2, h3, h4⟩
  · cases h

theorem cutOp_ok (hT : TOk P T) {W : Nat → Prop} (hW : W s.depth) (hI : Inv F φ s.stack w) (hE : EnvOk n ds F φ s a) {o : Oper} {j : Nat} {r : OpR} {s' : St}
    (h : cutOp T o j s = some (r, s')) : StepTo P n W F φ s a w o r s' ∧ s'.env = s.env := by
  unfold cutOp at h
  split at h
  · rename_i v hv
    obtain ⟨q, hq, h⟩ := Option.map_eq_some_iff.1 h
    simp only [Prod.mk.injEq] at h
    obtain ⟨rfl, rfl⟩ := h
    obtain ⟨F1, a1, i1⟩ := hI.shutL W hW s.depth [s.env j]
    have hrep := frz_rep i1 (S := s.stack) (d := s.depth) (ro := false) (s.env j) (fun k live sz xs hk hB _ => shut_at (ps := [s.env j]) (by simpa [ownsL, St.depth] using hk) hB) hv ((hE.rep j).mono a1.fm a1.pm)
    have he : ∀ x, Rep F1 φ ((⟨upd s.env j v, shutL s.depth [s.env j] s.L, s.H⟩ : St).eval x) (a.eval x) := by
      intro x
      cases x with
      | tmp t =>
        show Rep F1 φ (upd s.env j v t) _
        unfold upd
        split
        · rename_i ht; subst ht; exact hrep
        · exact (hE.rep t).mono a1.fm a1.pm
      | const c => exact rep_ofV F1 φ c
      | global g => exact .junk _
      | func f => exact .func (.func f) [] [] #[] #[] rfl rfl (by simp) (by simp)
    have ht := pureOp_ok (P := P) hT i1 (ρ := a.eval) he hq
    refine ⟨fun K Q hK hQ => ?_, rfl⟩
    cases q with
    | val p =>
      obtain ⟨u, hu, hr⟩ := ht
      unfold Oper.wp
      rw [hu]
      exact hK p rfl F1 φ w u a1 i1 hr
    | panic p =>
      obtain ⟨u, w', hu, hq', hr⟩ := ht
      unfold Oper.wp
      rw [hu]
      exact hQ p rfl F1 φ w' u (a1.trans (Adv.same hq'.heap hq'.os hq'.tape hq'.output)) (i1.same hq'.heap) hr
  · cases h

theorem opRun_ok (hT : TOk P T) (hO : CallOk P O) {W : Nat → Prop} {wl : Nat} (hW : ∀ d, wl ≤ d ∨ d = s.depth → W d) (hI : Inv F φ s.stack w) (hE : EnvOk n ds F φ s a) {o : Oper} {r : OpR} {s' : St}
    (h : opRun T O wl o s = some (r, s')) : StepTo P n W F φ s a w o r s' ∧ s'.env = s.env := by
  obtain ⟨dst, op, ty, pos, after, gd⟩ := o
  unfold opRun at h
  split at h
  · exact cutOp_ok hT (hW _ (.inr rfl)) hI hE h
  · rename_i t x y ho
    simp only [] at ho
    subst ho
    exact storeOp_ok hT hW hI hE h
  · rename_i f args tys ho
    simp only [] at ho
    subst ho
    exact callOp_ok hO hW hI hE h
  · rename_i args tys ho
    simp only [] at ho
    subst ho
    exact appendOp_ok hT hW hI hE h
  · rename_i t m k x ho
    simp only [] at ho
    subst ho
    exact mapOp_ok hT hW hI hE (fun _ => rfl) h
  · rename_i t m k x ho
    simp only [] at ho
    subst ho
    exact mapOp_ok hT hW hI hE (fun _ => rfl) h
  · split at h
    · exact makeOpR_ok hT (hW _ (.inr rfl)) hI hE h
    · obtain ⟨q, hq, h⟩ := Option.map_eq_some_iff.1 h
      simp only [Prod.mk.injEq] at h
      obtain ⟨rfl, rfl⟩ := h
      exact ⟨StepTo.of_tells hI (pureOp_ok hT hI hE.eval hq), rfl⟩

end
end Go.GL
