/-
  GL, part S: what the interpreter tells, the machine's calls come to.
-/
import Derived.Test.YtafgloejojikoaaMGlM
import Derived.Test.YtafgloejojikoaaMGlLj
import Derived.Test.YtafgloejojikoaaMGlB
set_option linter.unusedSimpArgs false
set_option linter.unusedVariables false
/-! GL, part S: what the interpreter tells, the machine's calls come to. -/
namespace Go.GL

section
variable {P : Program} {T : Tab} {O : Orc} {n : Nat} {ds : List Deferred} {W : Nat → Prop}

theorem leave_ok {F : FM} {φ : PM} {w : World} {s : St} {keep : FuncId → Bool} {wl : Nat} {F0 : FM} {φ0 : PM} {H0 : Heap} {w0 : World} (hI : Inv F φ s.stack w) (ha : Adv W F0 φ0 ([] :: H0) w0 F φ s.stack w) (h0 : Inv F0 φ0 H0 w0)
    (hW : ∀ d, W d → wl ≤ d ∨ d = H0.length) (hWt : W H0.length) {f : FuncId} {v : PV} {u : Value} (hr : Rep F φ v u) {out : Out} {H' : Heap} (h : leave keep f s v = some (out, H')) :
    ∃ F' φ', Adv (fun d => wl ≤ d) F0 φ0 H0 w0 F' φ' H' w ∧ Inv F' φ' H' w ∧ RelOut F' φ' out (.returned u) := by
  have hl : s.H.length = H0.length := by have := ha.len; simpa [St.stack] using this
  have plain : ∀ {v' : PV}, frz s.stack s.depth false v = some v' → (within (s.depth - 1) v' && decide (0 < s.depth)) = true → ∃ F' φ', Adv (fun d => wl ≤ d) F0 φ0 H0 w0 F' φ' s.H w ∧ Inv F' φ' s.H w ∧ Rep F' φ' v' u := by
    intro v' hf hw
    simp only [Bool.and_eq_true, decide_eq_true_eq] at hw
    obtain ⟨F1, a1, i1⟩ := hI.shutL W (by rw [hl]; exact hWt) s.depth [v]
    have hrep := frz_rep i1 (S := s.stack) (d := s.depth) (ro := false) v (fun k live sz xs hk hB _ => shut_at (ps := [v]) (by simpa [ownsL, St.depth] using hk) hB) hf (hr.mono a1.fm a1.pm)
    refine ⟨F1, φ.under s.H.length, (ha.trans a1).drop h0 hW, i1.drop, ?_⟩
    have := hrep.upto hw.1
    rw [PM.upto_under hw.2] at this
    exact this
  have other : ∀ (o : Option PV), frz s.stack s.depth false v = o → (match o with
      | some v' => if within (s.depth - 1) v' && decide (0 < s.depth) then some (Out.ret v', s.H) else none
      | none => none) = some (out, H') → ∃ F' φ', Adv (fun d => wl ≤ d) F0 φ0 H0 w0 F' φ' H' w ∧ Inv F' φ' H' w ∧ RelOut F' φ' out (.returned u) := by
    intro o ho hh
    cases o with
    | none => cases hh
    | some v' =>
      simp only [] at hh
      split at hh
      · rename_i hw
        simp only [Option.some.injEq, Prod.mk.injEq] at hh
        obtain ⟨rfl, rfl⟩ := hh
        exact plain ho hw
      · cases hh
  unfold leave at h
  split at h
  · rename_i d k n sz L H hk hH
    split at h
    · rename_i hd
      subst hd
      split at h
      · rename_i sz' xs hB
        split at h
        · rename_i hh
          obtain ⟨rfl, rfl⟩ := hh
          simp only [Option.some.injEq, Prod.mk.injEq] at h
          obtain ⟨rfl, rfl⟩ := h
          cases hr with
          | data p v hl h => simp [isLeaf] at hl
          | own d k n sz b S cap hp hn hS =>
          have hdep : s.depth = (L :: H).length := by unfold St.depth; rw [hH]
          have hst : s.stack = s.L :: L :: H := by unfold St.stack; rw [hH]
          rw [hst] at hI ha
          rw [hdep] at hp
          obtain ⟨φ', q1, q2, q3⟩ := hI.adopt ha h0 hW hB hp
          exact ⟨F, φ', q1, q2, .own _ _ _ _ b S cap q3 hn hS⟩
        · cases h
      · cases h
    · cases h
  · exact other _ rfl h

/-- A function's contract out of its body's walk in frames of its own. -/
theorem calls_of_wpAt {f : FuncId} {fn : Func} {c : Code} {args : Array Value} {w : World} {R : Ending → World → Prop} (hf : P.funcs[f]? = some fn) (hb : fn.body = some c)
    (h : wpAt P f c (bodyPostM Fence.wide 0 P fn R) { tmps := args ++ Array.replicate (fn.ntmps - args.size) undef, defers := [] } w) : Calls P f args w R := by
  refine (callsIn_wide (n := 0)).1 ⟨trivial, fun cs hr => ?_⟩
  let b : Frame := { (default : Frame) with fn := f, kind := .normal, roundOf := none }
  have henter : Frame.enter P f args .normal =
      b.atR { tmps := args ++ Array.replicate (fn.ntmps - args.size) undef, defers := [] } [.code c] := by
    simp [Frame.enter, Frame.atR, hf, hb, b]
  obtain ⟨e, a', w', hq, harr⟩ := h b [] cs rfl rfl
  rw [← henter] at harr
  have hF : Fence.wide.fn b.fn := trivial
  cases e with
  | normal =>
    obtain ⟨e', w'', fr', hR, hs, hfn, hl⟩ := leaves_stepsInM a'.defers .returning w' { b.atR a' [] with mode := .returning } cs rfl rfl rfl hf rfl hF hr hq
    exact ⟨e', w'', fr', hR, ComesIn.of_steps (StepsIn.trans harr (.one (fenced_calm (fr := b.atR a' []) hF hr rfl) (stepR_end rfl))) hs, hfn, hl⟩
  | ret =>
    obtain ⟨todo, hs₀⟩ := harr.1 rfl
    obtain ⟨e', w'', fr', hR, hs, hfn, hl⟩ := leaves_stepsInM a'.defers .returning w' { b.atR a' todo with mode := .returning } cs rfl rfl rfl hf rfl hF hr hq
    exact ⟨e', w'', fr', hR, ComesIn.of_steps hs₀ hs, hfn, hl⟩
  | panic chain =>
    obtain ⟨todo, hs₀⟩ := harr
    obtain ⟨e', w'', fr', hR, hs, hfn, hl⟩ := leaves_stepsInM a'.defers (.panicking chain) w' { b.atR a' todo with mode := .panicking chain } cs rfl rfl rfl hf rfl hF hr hq
    exact ⟨e', w'', fr', hR, ComesIn.of_steps hs₀ hs, hfn, hl⟩
  | exit id => exact hq.elim
  | goto l => exact hq.elim
  | outgrown => exact ⟨.outgrown, w', b, hq, harr.resolve_left (by simp [b]), rfl, trivial⟩

/-- Slots as a call begins. -/
theorem env_start {F : FM} {φ : PM} {args : List PV} {vs : Array Value} (hr : Reps F φ args vs.toList) (hlen : args.length ≤ n) {H : Heap} :
    EnvOk n [] F φ { env := fun i => (args[i]?).getD undefP, L := [], H := H } { tmps := vs ++ Array.replicate (n - vs.size) undef, defers := [] } := by
  have hvl : vs.size = args.length := by have := hr.1; simpa using this
  refine ⟨rfl, by simp; omega, fun t => ?_⟩
  simp only [Array.getD_eq_getD_getElem?]
  by_cases ht : t < args.length
  · rw [Array.getElem?_append_left (by omega), List.getElem?_eq_getElem ht, Array.getElem?_eq_getElem (by omega)]
    exact hr.2 t _ _ (List.getElem?_eq_getElem ht) (by first | (simp; done) | (simp; omega))
  · rw [List.getElem?_eq_none (by omega), Array.getElem?_append_right (by omega)]
    have : (Array.replicate (n - vs.size) undef)[t - vs.size]?.getD undef = undef := by
      rw [Array.getElem?_replicate]
      split <;> rfl
    rw [this]
    exact rep_undef F φ

/-- The marks are taken up, one behind another; nothing that is known turns. -/
theorem leaves_marks {fn : Func} {tmps : Array Value} {R : Ending → World → Prop} {F0 F : FM} {φ0 φ : PM} {S0 S : Heap} {w0 : World} {V : Nat → Prop} {base : Nat} (hb : w0.heap.size ≤ base) {ds : List Deferred} {u : FrameMode} (hu : u ≠ .run)
    (hk : ∀ w, Inv F φ S w → Adv V F0 φ0 S0 w0 F φ S w → LeavesInM Fence.wide 0 P fn tmps R ds u w) : ∀ {ms : List Deferred} {top : Nat} {w : World}, Marks base w top ms → Inv F φ S w → Adv V F0 φ0 S0 w0 F φ S w → LeavesInM Fence.wide 0 P fn tmps R (ms ++ ds) u w := by
  intro ms
  induction ms with
  | nil => exact fun _ hI hA => hk _ hI hA
  | cons d ms ih =>
    intro top w h hI hA
    cases h with
    | cons hd h0 h1 h =>
      obtain ⟨rfl, hD⟩ := hd
      rename_i D
      have aD : Aside w D := ⟨_, hD, (fun _ _ _ e => by cases e), (fun _ _ e => by cases e)⟩
      refine ⟨hu, .inl ⟨D, _, rfl, run_takeDeferred hD, ?_⟩⟩
      exact ih (h.keep fun D' _ h3 _ => World.putObj_heap_other (by omega)) (hI.putAside aD _) (hA.putAside (by omega) _)

theorem callBody_ok (hT : TOk P T) (hO : CallOk P O) (hL : LoopOk P O) (hB : BackOk P T O) (hm : P.follows .mixedOrders = true) {fns : FuncId → Option Func} (hf : ∀ f fn, fns f = some fn → P.funcs[f]? = some fn) {keep : FuncId → Bool}
    {f : FuncId} {wl : Nat} {args : List PV} {H : Heap} {out : Out} {H' : Heap} (h : callBody T O wl fns keep f args H = some (out, H')) {F : FM} {φ : PM} {w : World} {vs : Array Value} (hI : Inv F φ H w) (hr : Reps F φ args vs.toList) :
    Goes P f vs w fun e w' => ∃ F' φ', Adv (fun d => wl ≤ d) F φ H w F' φ' H' w' ∧ Inv F' φ' H' w' ∧ RelOut F' φ' out e := by
  unfold callBody at h
  cases hfn : fns f with
  | none => rw [hfn] at h; cases h
  | some fn =>
  rw [hfn] at h
  simp only [] at h
  cases hb : fn.body with
  | none => rw [hb] at h; cases h
  | some c =>
  rw [hb] at h
  simp only [] at h
  split at h
  · cases h
  · rename_i hwf0
    have hlen : args.length ≤ fn.ntmps := by
      rcases Nat.lt_or_ge fn.ntmps args.length with h1 | h1
      · exact absurd (.inl h1) hwf0
      · exact h1
    have hwf : wfFunc fn = true := by
      cases hw : wfFunc fn with
      | true => rfl
      | false => exact absurd (.inr hw) hwf0
    unfold wfFunc at hwf
    rw [hb] at hwf
    simp only [Bool.and_eq_true, bne_iff_ne, ne_eq] at hwf
    obtain ⟨hname, hwfc⟩ := hwf
    have hP := hf f fn hfn
    have henter : (callFunc f vs).run P w = .ok (.enter f vs) w := by
      simp [callFunc, hP, hname, hb]
    unfold Goes
    rw [henter]
    simp only []
    cases hrun : run T O wl c { env := fun i => (args[i]?).getD undefP, L := [], H := H } with
    | none => rw [hrun] at h; cases h
    | some q =>
    obtain ⟨ex, s'⟩ := q
    rw [hrun] at h
    have hvl : vs.size = args.length := by have := hr.1; simpa using this
    have hE := env_start (n := fn.ntmps) (H := H) hr hlen
    have hout := run_okAt (P := P) (T := T) (O := O) (n := fn.ntmps) (W := fun d => wl ≤ d ∨ d = H.length) hT hO hL hB hm hP (wl := wl) c _ ex s' F φ _ w hwfc hrun (fun d hd => hd) hI.push hE
    refine calls_of_wpAt hP hb (wpAt_mono hout fun e a' w' ho => ?_)
    obtain ⟨ms, hms, F', φ', h1, h2, h3⟩ := ho
    simp only [List.append_nil] at h3
    have done : (match readR T s' fn.results.toList with
        | some vs => leave keep f s' (tupled vs)
        | none => none) = some (out, H') → EnvOk fn.ntmps ms F' φ' s' a' →
        LeavesInM Fence.wide 0 P fn a'.tmps (fun e w' => ∃ F'' φ'', Adv (fun d => wl ≤ d) F φ H w F'' φ'' H' w' ∧ Inv F'' φ'' H' w' ∧ RelOut F'' φ'' out e) a'.defers .returning w' := by
      intro hh hE'
      cases hrd : readR T s' fn.results.toList with
      | none => rw [hrd] at hh; cases hh
      | some rs =>
        rw [hrd] at hh
        have := leaves_marks (P := P) (fn := fn) (tmps := a'.tmps) (R := fun e w' => ∃ F'' φ'', Adv (fun d => wl ≤ d) F φ H w F'' φ'' H' w' ∧ Inv F'' φ'' H' w' ∧ RelOut F'' φ'' out e) (Nat.le_refl _) (ds := []) (u := .returning) (by simp) (fun w2 g1 g2 => by
          obtain ⟨u, hu, hru⟩ := results_ok hT g1 hE' hrd
          exact ⟨u, hu, leave_ok g1 g2 hI (fun d hd => hd) (.inr rfl) hru hh⟩) hms h2 h1
        rw [hE'.defers]
        simpa using this
    cases ex with
    | normal =>
      obtain ⟨rfl, hE'⟩ := h3.normal
      exact done h hE'
    | ret =>
      cases e with
      | ret => exact done h h3
      | _ => exact h3.elim
    | exit id => cases h
    | panic p =>
      simp only [] at h
      split at h
      · rename_i hdat
        simp only [Option.some.injEq, Prod.mk.injEq] at h
        obtain ⟨rfl, rfl⟩ := h
        cases e with
        | panic c =>
          obtain ⟨g1, v, rfl, g2⟩ := h3
          have := leaves_marks (P := P) (fn := fn) (tmps := a'.tmps) (R := fun e w' => ∃ F'' φ'', Adv (fun d => wl ≤ d) F φ H w F'' φ'' s'.H w' ∧ Inv F'' φ'' s'.H w' ∧ RelOut F'' φ'' (.panic p) e) (Nat.le_refl _) (ds := []) (u := .panicking [{ v, recovered := false }]) (by simp) (fun w2 q1 q2 => by
            exact ⟨F', φ'.under s'.H.length, q2.drop hI (fun d hd => hd), q1.drop, v, rfl, .of_data (g2.data_of hdat)⟩) hms h2 h1
          show LeavesInM _ _ _ _ _ _ _ _ _
          rw [g1.defers]
          simpa using this
        | _ => exact h3.elim
      · cases h

/-- The contracts of the functions that are taken on their own. -/
structure SpecHolds (P : Program) (T : Tab) (X : Spec) : Prop where
  call : ∀ f g, X.call f = some g → ∀ O, CallOk P O → LoopOk P O → BackOk P T O →
    ∀ wl args H out H', g O wl args H = some (out, H') → ∀ F φ w (vs : Array Value), Inv F φ H w → Reps F φ args vs.toList →
      Goes P f vs w fun e w' => ∃ F' φ', Adv (fun d => wl ≤ d) F φ H w F' φ' H' w' ∧ Inv F' φ' H' w' ∧ RelOut F' φ' out e
  back : ∀ f e, X.back f = some e → RowsBack P T f e

theorem rounds_ok (hT : TOk P T) (hm : P.follows .mixedOrders = true) {fns : FuncId → Option Func} (hf : ∀ f fn, fns f = some fn → P.funcs[f]? = some fn) {keep : FuncId → Bool} {X : Spec} (hX : SpecHolds P T X) :
    ∀ m, CallOk P (rounds T fns keep X m) ∧ LoopOk P (rounds T fns keep X m) ∧ BackOk P T (rounds T fns keep X m)
  | 0 => ⟨fun f wl args H out H' h => (by cases h), fun wl c s ex s' h => (by cases h), fun f e h => (by cases h)⟩
  | m + 1 => by
    obtain ⟨hO, hL, hB⟩ := rounds_ok hT hm hf hX m
    refine ⟨fun f wl args H out H' h F φ w vs hI hr => ?_, fun wl c s ex s' h n ds W F φ a w hwf hW hI hE => ?_, fun f e h => hX.back f e h⟩
    · simp only [rounds, nextO] at h
      cases hx : X.call f with
      | some g =>
        rw [hx] at h
        exact hX.call f g hx _ hO hL hB wl args H out H' h F φ w vs hI hr
      | none =>
        rw [hx] at h
        exact callBody_ok hT hO hL hB hm hf h hI hr
    · simp only [rounds, nextO, run] at h
      cases hx : run T (rounds T fns keep X m) wl c s with
      | none => rw [hx] at h; cases h
      | some q =>
        obtain ⟨ex1, s1⟩ := q
        rw [hx] at h
        refine head_step (wp_mono (run_ok hT hO hL hm c s ex1 s1 F φ a w hwf hx hW hI hE) fun e a1 w1 ho => ?_)
        by_cases hn : ex1 = .normal
        · subst hn
          simp only [] at h
          obtain ⟨F1, φ1, h1, h2, h3⟩ := ho
          obtain ⟨rfl, h3⟩ := h3.normal
          intro b k cs
          obtain ⟨e, a', w', hq, harr⟩ := hL wl c s1 ex s' h n ds W F1 φ1 a1 w1 hwf (by rw [depth_of h1]; exact hW) h2 h3 b k cs
          exact ⟨e, a', w', hq.start h1, harr⟩
        · have he : (ex1, s1) = (ex, s') := by
            cases ex1 with
            | normal => exact absurd rfl hn
            | _ => simpa using h
          injection he with e1 e2
          subst e1 e2
          obtain ⟨F1, φ1, h1, h2, h3⟩ := ho
          exact then_other ⟨F1, φ1, h1, h2, h3⟩ (h3.other hn)

/-- The whole. -/
theorem ev_ok (hT : TOk P T) (hm : P.follows .mixedOrders = true) {fns : FuncId → Option Func} (hf : ∀ f fn, fns f = some fn → P.funcs[f]? = some fn) {keep : FuncId → Bool} {X : Spec} (hXk : SpecOk X) (hX : SpecHolds P T X) :
    CallOk P (ev T fns keep X) := fun f wl args H out H' h => by
  obtain ⟨m, hm'⟩ := (ev_call_iff hXk).1 h
  exact (rounds_ok hT hm hf hX m).1 f wl args H out H' hm'

end
end Go.GL
