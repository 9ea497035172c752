/-
  GL, part Lj: code that ranges over a row from its end, in a frame of a function that is known.
-/
import Derived.Test.YtafgloejojikoaaMGlL
set_option linter.unusedSimpArgs false
set_option linter.unusedVariables false
/-! GL, part Lj: code that ranges over a row from its end, in a frame of a function that is known. -/
namespace Go.GL

section
variable {P : Program} {f : FuncId} {Q : Exit → Act → World → Prop} {a : Act} {w : World}

/-- 'wp', of frames of function f alone. -/
def wpAt (P : Program) (f : FuncId) (c : Code) (Q : Exit → Act → World → Prop) (a : Act) (w : World) : Prop :=
  ∀ (b : Frame) (k : List Item) (cs : List Frame), b.fn = f → b.roundOf = none →
    ∃ e a' w', Q e a' w' ∧ ArrivesIn (Machine.fenced P Fence.wide) P (lone (b.atR a (.code c :: k)) cs w) b k cs e a' w'

theorem wpAt_of_wp {c : Code} (h : c.wp P Q a w) : wpAt P f c Q a w := fun b k cs _ hr =>
  (wpIn_wide (n := 0)).2 h b k cs hr trivial (room_wide _)

theorem wpAt_mono {c : Code} {Q' : Exit → Act → World → Prop} (h : wpAt P f c Q a w) (hq : ∀ e a w, Q e a w → Q' e a w) : wpAt P f c Q' a w :=
  fun b k cs hb hr => let ⟨e, a', w', q, r⟩ := h b k cs hb hr; ⟨e, a', w', hq _ _ _ q, r⟩

theorem wpAt_seq {x y : Code} (h : wpAt P f x (Exit.then (wpAt P f y Q) Q) a w) : wpAt P f (.seq x y) Q a w := by
  intro b k cs hb hr
  have h0 : (lone (b.atR a (.code (.seq x y) :: k)) cs w).fenced P Fence.wide := fenced_wide P _
  obtain ⟨e, a₁, w₁, hq, harr⟩ := h b (.code y :: k) cs hb hr
  cases e with
  | normal =>
    obtain ⟨e₂, a₂, w₂, hq₂, harr₂⟩ := hq b k cs hb hr
    exact ⟨e₂, a₂, w₂, hq₂, .of_steps (.head h0 stepR_seq harr) harr₂⟩
  | exit id => exact ⟨_, a₁, w₁, hq, .of_steps (.one h0 stepR_seq) (.pass (x := .code y) rfl (fun _ _ => .inl (by simp)) harr)⟩
  | goto l => exact ⟨_, a₁, w₁, hq, .of_steps (.one h0 stepR_seq) (.pass (x := .code y) rfl (fun _ _ => .inl (by simp)) harr)⟩
  | ret => exact ⟨_, a₁, w₁, hq, .of_steps (.one h0 stepR_seq) (.pass (x := .code y) rfl (fun _ _ => .inl (by simp)) harr)⟩
  | panic ch => exact ⟨_, a₁, w₁, hq, .of_steps (.one h0 stepR_seq) (.pass (x := .code y) rfl (fun _ _ => .inl (by simp)) harr)⟩
  | outgrown => exact ⟨_, a₁, w₁, hq, .of_steps (.one h0 stepR_seq) (.pass (x := .code y) rfl (fun _ _ => .inl (by simp)) harr)⟩

theorem wpAt_cond {c : Operand} {x y : Code} {t : Bool} (hc : a.eval c = .bool t) (h : wpAt P f (if t then x else y) Q a w) : wpAt P f (.cond c x y) Q a w :=
  fun b k cs hb hr => let ⟨e, a', w', q, r⟩ := h b k cs hb hr; ⟨e, a', w', q, .of_steps (.one (fenced_wide P _) (stepR_cond hc)) r⟩

theorem wpAt_block {id : Nat} {c : Code} (h : wpAt P f c (Exit.inBlock id Q) a w) : wpAt P f (.block id c) Q a w := by
  intro b k cs hb hr
  have h0 : (lone (b.atR a (.code (.block id c) :: k)) cs w).fenced P Fence.wide := fenced_wide P _
  obtain ⟨e, a₁, w₁, hq, harr⟩ := h b (.inBlock id :: k) cs hb hr
  cases e with
  | normal => exact ⟨.normal, a₁, w₁, hq, .head h0 stepR_block (StepsIn.trans harr (.one (fenced_wide P _) stepR_inBlock))⟩
  | exit id' =>
    by_cases hid : id' = id
    · simp only [Exit.inBlock, hid, if_true] at hq
      exact ⟨.normal, a₁, w₁, hq, .head h0 stepR_block (harr.1 k (by simp [exitTo, hid]))⟩
    · simp only [Exit.inBlock, hid, if_false] at hq
      have this : (id == id') = false := by simp; exact fun h => hid h.symm
      have hx : exitTo id' (.inBlock id :: k) = exitTo id' k := by simp [exitTo, this]
      exact ⟨.exit id', a₁, w₁, hq, fun k' hk => .head h0 stepR_block (harr.1 k' (by rw [hx]; exact hk)),
        fun hr' hk => let ⟨k₁, h1, h2⟩ := harr.2 hr' (by rw [hx]; exact hk); ⟨k₁, h1, .head h0 stepR_block h2⟩⟩
  | goto l =>
    have hx : gotoIn l (.inBlock id :: k) = gotoIn l k := by simp [gotoIn]
    exact ⟨_, a₁, w₁, hq, fun k' hk => .head h0 stepR_block (harr.1 k' (by rw [hx]; exact hk)),
      fun hr' hk => let ⟨k₁, h1, h2⟩ := harr.2 hr' (by rw [hx]; exact hk); ⟨k₁, h1, .head h0 stepR_block h2⟩⟩
  | ret => exact ⟨_, a₁, w₁, hq, .of_steps (.one h0 stepR_block) harr⟩
  | panic ch => exact ⟨_, a₁, w₁, hq, .of_steps (.one h0 stepR_block) harr⟩
  | outgrown => exact ⟨_, a₁, w₁, hq, .of_steps (.one h0 stepR_block) harr⟩

def rangePostAt (P : Program) (f : FuncId) (l : Nat) (Q : Exit → Act → World → Prop) (a' : Act) : Ending → World → Prop
  | .returned _, w₃ => ∃ jump w₄, (Instr.endLoop l).run P w₃ = .ok jump w₄ ∧
      (match jump with
       | none => Q .normal a' w₄
       | some c => wpAt P f c Q a' w₄)
  | .panicked chain, w₃ => Q (.panic chain) a' w₃
  | .outgrown, _ => False

theorem wpAt_rangeFunc {g : Operand} {ps : Array Tmp} {assign body : Code} (gf : FuncId) (lb : Array Value) (hg : a.eval g = .func (.func gf) #[] lb) (eg : ∀ args w, (callFunc gf args).run P w = .ok (.enter gf args) w)
    (h : Calls P gf (#[.func (.yield (w.heap.size + 1)) #[] #[]] ++ lb) ((w.alloc (.deferred (some []))).alloc (.loop { state := .ready, pending := none, fn := f, tmps := a.tmps, params := ps, assign, body, defers := w.heap.size }))
      (rangePostAt P f (w.heap.size + 1) Q { a with defers := { target := .collected w.heap.size, args := #[] } :: a.defers })) :
    wpAt P f (.rangeFunc g ps assign body) Q a w := by
  intro b k cs hb hro
  generalize hW : (w.alloc (.deferred (some []))).alloc (.loop { state := .ready, pending := none, fn := f, tmps := a.tmps, params := ps, assign, body, defers := w.heap.size }) = W at h
  have he : (Instr.enterLoop b.fn a.tmps ps assign body b.roundOf).run P w = .ok (w.heap.size + 1, [{ target := .collected w.heap.size, args := #[] }]) W := by
    rw [hb, hro, ← hW]
    exact run_enterLoop_outer _ _ _ _ _
  have hres : (resolve a.eval (rangeCall g (w.heap.size + 1)) 0).run P W = .ok { target := .fn (.func gf) lb, args := #[.func (.yield (w.heap.size + 1)) #[] #[]] } W := by
    simp only [resolve, hg]
    simp [go_sem]
  have hinv : (invoke (.fn (.func gf) lb) #[.func (.yield (w.heap.size + 1)) #[] #[]]).run P W = .ok (.enter gf (#[.func (.yield (w.heap.size + 1)) #[] #[]] ++ lb)) W := by
    simp [invoke, go_sem, eg]
  have henter := stepR_rangeFunc (P := P) (b := b) (a := a) (k := k) (cs := cs) (w := w) he hres hinv
  obtain ⟨e, w₃, fr, hR, hsteps, hfn, hleave⟩ := (callsIn_wide (n := 0)).2 h |>.2 (b.atR { a with defers := { target := .collected w.heap.size, args := #[] } :: a.defers } (.inRangeFunc (w.heap.size + 1) :: k) :: cs) (room_wide _)
  have h0 : ∀ m : Machine, m.fenced P Fence.wide := fenced_wide P
  cases e with
  | outgrown => exact hR.elim
  | returned v =>
    obtain ⟨jump, w₄, hend, hj⟩ := hR
    have sback : StepsIn (Machine.fenced P Fence.wide) P (lone (b.atR a (.code (.rangeFunc g ps assign body) :: k)) cs w) (lone (b.atR { a with defers := { target := .collected w.heap.size, args := #[] } :: a.defers } ((jump.map Item.code).toList ++ k)) cs w₄) := by
      refine .head (h0 _) henter (StepsIn.trans hsteps (.head (h0 _) ?_ (.one (h0 _) (stepR_endRangeFunc hend))))
      have := finish_atR_inRangeFunc (b := b) (a := { a with defers := { target := .collected w.heap.size, args := #[] } :: a.defers }) (k := k) (w.heap.size + 1) v
      rw [← this]; exact step_leave_returned hleave
    cases jump with
    | none => exact ⟨.normal, _, w₄, hj, sback⟩
    | some c =>
      obtain ⟨e', a'', w₅, hq, harr⟩ := hj b k cs hb hro
      exact ⟨e', a'', w₅, hq, .of_steps sback harr⟩
  | panicked chain =>
    refine ⟨.panic chain, _, w₃, hR, .inRangeFunc (w.heap.size + 1) :: k, .head (h0 _) henter (StepsIn.trans hsteps (.one (h0 _) ?_))⟩
    rw [← Frame.raise_atR]; exact step_leave_panicked hleave
end

/-- What a function that tells a row's elements from its end does, whatever the rounds do. -/
def RowsBack (P : Program) (T : Tab) (gf : FuncId) (e : Nat) : Prop := (∀ args w, (callFunc gf args).run P w = .ok (.enter gf args) w) ∧
  ∀ ei, T e = some ei → ∀ (l m : Nat) (fl : Bool) (xs : List PV) (F : FM) (b o : Nat) (sv : Value) (w : World)
    (J : Nat → World → Prop) (Jx : World → Prop) (Jp : List PanicEntry → World → Prop), xs.length ≤ lim → (∀ x ∈ xs, (cellsOf x).length = ei.size) → F b o = some sv → RepD F (.lst fl xs) sv →
    (∀ i W, J i W → ∀ b o v, F b o = some v → W.cell? ⟨b, o, none⟩ = some v) → (∀ W, Jx W → ∀ b o v, F b o = some v → W.cell? ⟨b, o, none⟩ = some v) →
    (∀ i x y, xs[i]? = some x → loadV ei (cellsOf x) 0 = some y → ∀ W v, J (i + 1) W → RepD F y v →
      YieldAt Fence.wide m P l #[.int .i64 i, v] W fun e W' => (e = .returned (.bool true) ∧ J i W') ∨ (e = .returned (.bool false) ∧ Jx W') ∨ ∃ c, e = .panicked c ∧ Jp c W') →
    J xs.length w → Calls P gf #[.func (.yield l) #[] #[], .pointer (some ⟨b, o, none⟩)] w fun e W' => ((∃ v, e = .returned v) ∧ (J 0 W' ∨ Jx W')) ∨ (∃ c, e = .panicked c ∧ Jp c W')

def BackOk (P : Program) (T : Tab) (O : Orc) : Prop := ∀ f e, O.back f = some e → RowsBack P T f e

/-- Where code comes out that may have laid marks. -/
def OutsM (W : Nat → Prop) (n : Nat) (ds : List Deferred) (F : FM) (φ : PM) (S : Heap) (w : World) (ex : Ex) (s' : St) : Exit → Act → World → Prop := fun e a' w' =>
  ∃ ms, Marks w.heap.size w' w'.heap.size ms ∧ Outs W n (ms ++ ds) F φ S w ex s' e a' w'

section
variable {P : Program} {T : Tab} {O : Orc} {n : Nat} {ds : List Deferred} {W : Nat → Prop}

theorem OutsM.of {F : FM} {φ : PM} {S : Heap} {w : World} {ex : Ex} {s' : St} {e : Exit} {a' : Act} {w' : World} (h : Outs W n ds F φ S w ex s' e a' w') : OutsM W n ds F φ S w ex s' e a' w' :=
  ⟨[], .nil _, h⟩

theorem OutsM.start {F F1 : FM} {φ φ1 : PM} {S S1 : Heap} {w w1 : World} {ex : Ex} {s' : St} {e : Exit} {a' : Act} {w' : World} {ms : List Deferred} (h : Adv W F φ S w F1 φ1 S1 w1) (hI : Inv F1 φ1 S1 w1) (hm : Marks w.heap.size w1 w1.heap.size ms)
    (g : OutsM W n (ms ++ ds) F1 φ1 S1 w1 ex s' e a' w') : OutsM W n ds F φ S w ex s' e a' w' := by
  obtain ⟨ns, hn, F', φ', h1, h2, h3⟩ := g
  exact ⟨ns ++ ms, hn.append (hm.adv h1 hI) h.size h1.size, F', φ', h.trans h1, h2, by rw [List.append_assoc]; exact h3⟩

variable (hT : TOk P T) (hO : CallOk P O) (hL : LoopOk P O) (hB : BackOk P T O) (hm : P.follows .mixedOrders = true)
include hT hO

theorem back_round {f : FuncId} {fn : Func} (hf : P.funcs[f]? = some fn) {wl m l D : Nat} {ps : Array Tmp} {p q : Nat} (hps : ps.toList = [p, q]) (hp : p < n) (hq : q < n) {asg body : Code} (hwa : wfCode n asg = true) (hwb : wfCode n body = true) (hia : inCode asg = true) (hib : inCode body = true)
    {s : St} {ex : Ex} {s' : St} {F0 : FM} {φ0 : PM} {w0 : World} {a : Act} (hE : EnvOk n ds F0 φ0 s a) (hW : ∀ d, wl ≤ d ∨ d = s.depth → W d) {ei : TI} {xs : List PV}
    (rec : LoopState → Option Code → Loop) (hrec : rec = fun st pe => { state := st, pending := pe, fn := f, tmps := a.tmps, params := ps, assign := asg, body := body, defers := D }) (hl0 : w0.heap.size ≤ l) (hlD : l ≠ D)
    (J : Nat → World → Prop) (hJ : ∀ i V, J i V ↔ ∃ Fi φi Li Hi, Adv W F0 φ0 s.stack w0 Fi φi (Li :: Hi) V ∧ Inv Fi φi (Li :: Hi) V ∧ V.heap[D]? = some (.deferred (some [])) ∧ V.heap[l]? = some (.loop (rec .ready none)) ∧ backR (run T O wl asg) (run T O wl body) p q ei s.env xs i Li Hi = some (ex, s'))
    (Jx : World → Prop) (hJx : ∀ V, Jx V ↔ ∃ Fi φi c, Adv W F0 φ0 s.stack w0 Fi φi s'.stack V ∧ Inv Fi φi s'.stack V ∧ V.heap[D]? = some (.deferred (some [])) ∧ V.heap[l]? = some (.loop (rec .done (some c))) ∧ s'.env = s.env ∧ ((ex = .ret ∧ c = .ret) ∨ ∃ id, ex = .exit id ∧ c = .exit id))
    (Jp : List PanicEntry → World → Prop) (hJp : ∀ c V, Jp c V ↔ ∃ Fi φi pv v, ex = .panic pv ∧ Adv W F0 φ0 s.stack w0 Fi φi s'.stack V ∧ Inv Fi φi s'.stack V ∧ V.heap[D]? = some (.deferred (some [])) ∧ s'.env = s.env ∧ c = [{ v, recovered := false }] ∧ Rep Fi φi pv v)
    {i : Nat} {x y : PV} (hx : xs[i]? = some x) (hy : loadV ei (cellsOf x) 0 = some y) {V : World} {v : Value} (hV : J (i + 1) V) (hv : ∀ Fi, FM.le F0 Fi → RepD Fi y v) :
    YieldAt Fence.wide m P l #[.int .i64 i, v] V fun e W' => (e = .returned (.bool true) ∧ J i W') ∨ (e = .returned (.bool false) ∧ Jx W') ∨ ∃ c, e = .panicked c ∧ Jp c W' := by
  obtain ⟨Fi, φi, Li, Hi, a1, i1, hD, hl, hb⟩ := (hJ _ _).1 hV
  have hpq : ps = #[p, q] := by apply Array.ext'; simpa using hps
  simp only [backR, hx, Option.bind_some, hy] at hb
  have hEi : EnvOk n [] Fi φi ⟨upd (upd s.env p (.int .i64 i)) q y, Li, Hi⟩ { tmps := (a.tmps.setIfInBounds p (.int .i64 i)).setIfInBounds q v, defers := [] } := by
    have e0 : EnvOk n [] Fi φi ⟨s.env, Li, Hi⟩ { tmps := a.tmps, defers := [] } := ⟨rfl, hE.size, fun t => (hE.rep t).mono a1.fm a1.pm⟩
    have e1 := e0.put (dst := some p) (by rintro d ⟨⟩; exact hp) (p := .int .i64 i) (v := .int .i64 i) (.data _ _ rfl (.int .i64 i))
    have e2 := e1.put (dst := some q) (by rintro d ⟨⟩; exact hq) (p := y) (v := v) (.of_data (hv Fi a1.fm))
    exact e2
  have hlen : Hi.length = s.H.length := by have := a1.len; simpa [St.stack] using this
  have hWi : ∀ d, wl ≤ d ∨ d = Hi.length → W d := fun d hd => hW d (hd.imp id fun e => by rw [e]; exact hlen)
  have hround : RoundIn Fence.wide m P l f ((a.tmps.setIfInBounds p (.int .i64 i)).setIfInBounds q v) asg body V fun e W' => (e = .returned (.bool true) ∧ J i W') ∨ (e = .returned (.bool false) ∧ Jx W') ∨ ∃ c, e = .panicked c ∧ Jp c W' := by
    refine roundIn_panics hf ?_
    cases hA : run T O wl asg ⟨upd (upd s.env p (.int .i64 i)) q y, Li, Hi⟩ with
    | none => rw [hA] at hb; cases hb
    | some o =>
    obtain ⟨x1, s1⟩ := o
    rw [hA] at hb
    cases x1 with
    | normal =>
      simp only [] at hb
      refine wpIn_mono (run_okIn (l := l) (m := m) hT hO asg _ _ _ Fi φi _ V hwa hia hA hWi i1 hEi) fun e a2 w2 ho => ?_
      obtain ⟨F2, φ2, b1, b2, b3⟩ := ho
      obtain ⟨rfl, b3⟩ := b3.normal
      have al : Aside V l := ⟨_, hl, (fun _ _ _ e => by cases e), (fun _ _ e => by cases e)⟩
      have aD : Aside V D := ⟨_, hD, (fun _ _ _ e => by cases e), (fun _ _ e => by cases e)⟩
      have hl2 : w2.heap[l]? = some (.loop (rec .ready none)) := (b1.aside i1 al).trans hl
      have hD2 : w2.heap[D]? = some (.deferred (some [])) := (b1.aside i1 aD).trans hD
      have al2 : Aside w2 l := ⟨_, hl2, (fun _ _ _ e => by cases e), (fun _ _ e => by cases e)⟩
      refine ⟨_, run_beginRound hl2 (by rw [hrec]), ?_⟩
      have c1 : Adv W F0 φ0 s.stack w0 F2 φ2 s1.stack w2 := a1.trans b1
      have c2 := c1.putAside hl0 (.loop { rec .ready none with state := .busy })
      have c3 := b2.putAside al2 (.loop { rec .ready none with state := .busy })
      generalize hw3 : w2.putObj l (.loop { rec .ready none with state := .busy }) = w3 at c2 c3 ⊢
      have hl3 : w3.heap[l]? = some (.loop { rec .ready none with state := .busy }) := by rw [← hw3]; exact World.putObj_heap_same al2.lt
      have hD3 : w3.heap[D]? = some (.deferred (some [])) := by rw [← hw3]; exact (World.putObj_heap_other (fun e => hlD e.symm)).trans hD2
      have al3 : Aside w3 l := ⟨_, hl3, (fun _ _ _ e => by cases e), (fun _ _ e => by cases e)⟩
      have aD3 : Aside w3 D := ⟨_, hD3, (fun _ _ _ e => by cases e), (fun _ _ e => by cases e)⟩
      have hdep : s1.depth = s.depth := by
        have := c1.len
        simp only [St.stack, List.length_cons] at this
        unfold St.depth
        omega
      cases hBd : run T O wl body s1 with
      | none => rw [hBd] at hb; cases hb
      | some o =>
      obtain ⟨x2, s2⟩ := o
      rw [hBd] at hb
      refine wpIn_mono (run_okIn (l := l) (m := m) hT hO body s1 _ _ F2 φ2 a2 w3 hwb hib hBd (by rw [hdep]; exact hW) c3 b3) fun e a4 w4 ho => ?_
      obtain ⟨F4, φ4, d1, d2, d3⟩ := ho
      have e1 : Adv W F0 φ0 s.stack w0 F4 φ4 s2.stack w4 := c2.trans d1
      have hl4 : w4.heap[l]? = some (.loop { rec .ready none with state := .busy }) := (d1.aside c3 al3).trans hl3
      have hD4 : w4.heap[D]? = some (.deferred (some [])) := (d1.aside c3 aD3).trans hD3
      have al4 : Aside w4 l := ⟨_, hl4, (fun _ _ _ e => by cases e), (fun _ _ e => by cases e)⟩
      have fin : ∀ o : Obj, Adv W F0 φ0 s.stack w0 F4 φ4 s2.stack (w4.putObj l o) ∧ Inv F4 φ4 s2.stack (w4.putObj l o) ∧ (w4.putObj l o).heap[D]? = some (.deferred (some [])) ∧ (w4.putObj l o).heap[l]? = some o := fun o =>
        ⟨e1.putAside hl0 o, d2.putAside al4 o, (World.putObj_heap_other (fun e => hlD e.symm)).trans hD4, World.putObj_heap_same al4.lt⟩
      cases x2 with
      | normal =>
        obtain ⟨rfl, d3⟩ := d3.normal
        simp only [] at hb
        obtain ⟨g1, g2, g3, g4⟩ := fin (.loop (rec .ready none))
        refine ⟨_, _, run_endRound none hl4, .inl ⟨rfl, (hJ _ _).2 ⟨F4, φ4, s2.L, s2.H, ?_, ?_, ?_, ?_, hb⟩⟩⟩
        · simpa [hrec, St.stack] using g1
        · simpa [hrec, St.stack] using g2
        · simpa [hrec] using g3
        · simpa [hrec] using g4
      | ret =>
        simp only [Option.some.injEq, Prod.mk.injEq] at hb
        obtain ⟨rfl, rfl⟩ := hb
        cases e with
        | ret =>
          obtain ⟨g1, g2, g3, g4⟩ := fin (.loop (rec .done (some .ret)))
          refine ⟨_, _, run_endRound (some .ret) hl4, .inr (.inl ⟨rfl, (hJx _).2 ⟨F4, φ4, .ret, ?_, ?_, ?_, ?_, rfl, .inl ⟨rfl, rfl⟩⟩⟩)⟩
          · simpa [hrec, St.stack] using g1
          · simpa [hrec, St.stack] using g2
          · simpa [hrec] using g3
          · simpa [hrec] using g4
        | _ => exact d3.elim
      | exit id =>
        simp only [Option.some.injEq, Prod.mk.injEq] at hb
        obtain ⟨rfl, rfl⟩ := hb
        cases e with
        | exit id2 =>
          obtain ⟨rfl, _⟩ := d3
          obtain ⟨g1, g2, g3, g4⟩ := fin (.loop (rec .done (some (.exit id2))))
          refine ⟨_, _, run_endRound (some (.exit id2)) hl4, .inr (.inl ⟨rfl, (hJx _).2 ⟨F4, φ4, .exit id2, ?_, ?_, ?_, ?_, rfl, .inr ⟨id2, rfl, rfl⟩⟩⟩)⟩
          · simpa [hrec, St.stack] using g1
          · simpa [hrec, St.stack] using g2
          · simpa [hrec] using g3
          · simpa [hrec] using g4
        | _ => exact d3.elim
      | panic pv =>
        simp only [Option.some.injEq, Prod.mk.injEq] at hb
        obtain ⟨rfl, rfl⟩ := hb
        cases e with
        | panic ch =>
          obtain ⟨k1, u, rfl, k2⟩ := d3
          exact ⟨k1.defers, .inr (.inr ⟨_, rfl, (hJp _ _).2 ⟨F4, φ4, pv, u, rfl, e1, d2, hD4, rfl, rfl, k2⟩⟩)⟩
        | _ => exact d3.elim
    | _ => cases hb
  refine ⟨f, _, asg, body, ?_, hround⟩
  have hyl := run_yield (P := P) (args := #[.int .i64 i, v]) hl (by rw [hrec]; simp [hpq])
  rw [hyl, hrec]
  simp [hpq]

include hB in
theorem range_ok {f : FuncId} {fn : Func} (hf : P.funcs[f]? = some fn) {wl : Nat} {g : Operand} {ps : Array Tmp} {asg body : Code} {s : St} {ex : Ex} {s' : St} {F : FM} {φ : PM} {a : Act} {w : World}
    (hwf : ((ps.all fun p => decide (p < n)) && wfCode n asg && wfCode n body && inCode asg && inCode body) = true) (h : run T O wl (.rangeFunc g ps asg body) s = some (ex, s')) (hW : ∀ d, wl ≤ d ∨ d = s.depth → W d) (hI : Inv F φ s.stack w) (hE : EnvOk n ds F φ s a) :
    wpAt P f (.rangeFunc g ps asg body) (OutsM W n ds F φ s.stack w ex s') a w := by
  simp only [Bool.and_eq_true] at hwf
  obtain ⟨⟨⟨⟨hpsn, hwa⟩, hwb⟩, hia⟩, hib⟩ := hwf
  simp only [run] at h
  cases hr : rangeP T O ps (s.eval g) with
  | none => rw [hr] at h; cases h
  | some o =>
  obtain ⟨p, q, ei, xs⟩ := o
  rw [hr] at h
  simp only [] at h
  unfold rangeP at hr
  split at hr
  · rename_i p' q' gf xs' hps hrow
    cases hb : (O.back gf).bind T with
    | none => rw [hb] at hr; cases hr
    | some ei' =>
    rw [hb] at hr
    simp only [] at hr
    split at hr
    · rename_i hh
      simp only [Option.some.injEq, Prod.mk.injEq] at hr
      obtain ⟨rfl, rfl, rfl, rfl⟩ := hr
      obtain ⟨hlim, hall⟩ := hh
      obtain ⟨e, he, hei⟩ := Option.bind_eq_some_iff.1 hb
      obtain ⟨heg, hback⟩ := hB gf e he
      have hback := hback ei' hei
      have hpp : p' < n ∧ q' < n := by
        have := Array.all_eq_true_iff_forall_mem.1 hpsn
        constructor
        · have h1 := this p' (by rw [← Array.mem_toList_iff, hps]; simp)
          simpa using h1
        · have h1 := this q' (by rw [← Array.mem_toList_iff, hps]; simp)
          simpa using h1
      have hge := hE.eval g
      unfold rowsP at hrow
      split at hrow
      · rename_i g1 fl xs1 hgv
        simp only [Option.some.injEq, Prod.mk.injEq] at hrow
        obtain ⟨rfl, rfl⟩ := hrow
        rw [hgv] at hge
        generalize hga : a.eval g = gv at hge
        cases hge with
        | data p v hl h => simp [isLeaf] at hl
        | func f' fs cs vs us hl hm' h1 h2 =>
        have hvs : vs = #[] := by apply Array.ext'; simpa using hl
        subst hvs
        obtain ⟨u0, hu0⟩ : ∃ u0, us = #[u0] := by
          match us, hm' with
          | ⟨[u0]⟩, _ => exact ⟨u0, rfl⟩
        subst hu0
        have hptr := h2 0 _ u0 rfl rfl
        cases hptr with
        | data p v hl h => simp [isLeaf] at hl
        | rptr cs off b o cv k1 k2 k3 =>
        have hF0 := k2 0 _ rfl
        have hR0 := k3 0 _ rfl
        simp only [Nat.add_zero] at hF0
        obtain ⟨rec, hrec⟩ : ∃ rec : LoopState → Option Code → Loop, rec = fun st pe => { state := st, pending := pe, fn := f, tmps := a.tmps, params := ps, assign := asg, body := body, defers := w.heap.size } := ⟨_, rfl⟩
        obtain ⟨i1, a1⟩ := hI.lays (.deferred (some []))
        obtain ⟨i2, a2⟩ := i1.lays (.loop (rec .ready none))
        refine wpAt_rangeFunc g1 #[.pointer (some ⟨b, o + 0, none⟩)] hga heg ?_
        have hw1 : (w.alloc (.deferred (some []))).heap.size = w.heap.size + 1 := World.size_alloc _ _
        have hl1 : ((w.alloc (.deferred (some []))).alloc (.loop (rec .ready none))).heap[w.heap.size + 1]? = some (.loop (rec .ready none)) := by
          rw [← hw1]; exact World.alloc_heap_new _ _
        have hD1 : ((w.alloc (.deferred (some []))).alloc (.loop (rec .ready none))).heap[w.heap.size]? = some (.deferred (some [])) := by
          have hd0 := World.alloc_heap_new w (.deferred (some []))
          exact ((a2 W).aside i1 ⟨_, hd0, (fun _ _ _ e => by cases e), (fun _ _ e => by cases e)⟩).trans hd0
        have hrc : ({ state := .ready, pending := none, fn := f, tmps := a.tmps, params := ps, assign := asg, body := body, defers := w.heap.size } : Loop) = rec .ready none := by rw [hrec]
        rw [hrc]
        have hcalls := hback (w.heap.size + 1) 0 fl xs1 F b o (cv 0) ((w.alloc (.deferred (some []))).alloc (.loop (rec .ready none)))
          (fun i V => ∃ Fi φi Li Hi, Adv W F φ s.stack w Fi φi (Li :: Hi) V ∧ Inv Fi φi (Li :: Hi) V ∧ V.heap[w.heap.size]? = some (.deferred (some [])) ∧ V.heap[w.heap.size + 1]? = some (.loop (rec .ready none)) ∧ backR (run T O wl asg) (run T O wl body) p' q' ei' s.env xs1 i Li Hi = some (ex, s'))
          (fun V => ∃ Fi φi c, Adv W F φ s.stack w Fi φi s'.stack V ∧ Inv Fi φi s'.stack V ∧ V.heap[w.heap.size]? = some (.deferred (some [])) ∧ V.heap[w.heap.size + 1]? = some (.loop (rec .done (some c))) ∧ s'.env = s.env ∧ ((ex = .ret ∧ c = .ret) ∨ ∃ id, ex = .exit id ∧ c = .exit id))
          (fun c V => ∃ Fi φi pv v, ex = .panic pv ∧ Adv W F φ s.stack w Fi φi s'.stack V ∧ Inv Fi φi s'.stack V ∧ V.heap[w.heap.size]? = some (.deferred (some [])) ∧ s'.env = s.env ∧ c = [{ v, recovered := false }] ∧ Rep Fi φi pv v)
          hlim (fun x hx => by simpa using List.all_eq_true.1 hall x hx) hF0 hR0
          (fun i V hV b o v hb => by
            obtain ⟨Fi, φi, Li, Hi, q1, q2, _⟩ := hV
            exact q2.cell b o v (q1.fm b o v hb))
          (fun V hV b o v hb => by
            obtain ⟨Fi, φi, c, q1, q2, _⟩ := hV
            exact q2.cell b o v (q1.fm b o v hb))
          (fun i x y hx hy V v hV hv => back_round hT hO hf hps hpp.1 hpp.2 hwa hwb hia hib hE hW rec hrec (by omega) (by omega) _ (fun _ _ => Iff.rfl) _ (fun _ => Iff.rfl) _ (fun _ _ => Iff.rfl) hx hy hV (fun Fi hle => hv.mono hle))
          ⟨F, φ, s.L, s.H, (a1 W).trans (a2 W), i2, hD1, hl1, h⟩
        refine Calls.mono hcalls ?_
        rintro e V (⟨⟨v, rfl⟩, hJ | hJ⟩ | ⟨c, rfl, hJ⟩)
        · obtain ⟨Fi, φi, Li, Hi, q1, q2, q3, q4, q5⟩ := hJ
          simp only [backR, Option.some.injEq, Prod.mk.injEq] at q5
          obtain ⟨rfl, rfl⟩ := q5
          have al : Aside V (w.heap.size + 1) := ⟨_, q4, (fun _ _ _ e => by cases e), (fun _ _ e => by cases e)⟩
          refine ⟨_, _, run_endLoop q4 (by rw [hrec]; simp), ?_⟩
          simp only [hrec]
          refine ⟨[{ target := .collected w.heap.size, args := #[] }], .cons (D := w.heap.size) ⟨rfl, ?_⟩ (Nat.le_refl _) ?_ (.nil _), Fi, φi, q1.putAside (by omega) _, q2.putAside al _, ⟨by simp [hE.defers], hE.size, fun t => (hE.rep t).mono q1.fm q1.pm⟩⟩
          · exact (World.putObj_heap_other (by omega)).trans q3
          · have := al.lt
            simp only [World.putObj, Array.size_setIfInBounds]
            omega
        · obtain ⟨Fi, φi, c, q1, q2, q3, q4, q5, q6⟩ := hJ
          have al : Aside V (w.heap.size + 1) := ⟨_, q4, (fun _ _ _ e => by cases e), (fun _ _ e => by cases e)⟩
          refine ⟨_, _, run_endLoop q4 (by rw [hrec]; simp), ?_⟩
          have fin : ∀ o, ∃ ms, Marks w.heap.size (V.putObj (w.heap.size + 1) o) (V.putObj (w.heap.size + 1) o).heap.size ms ∧ ms = [{ target := .collected w.heap.size, args := #[] }] := fun o => ⟨_, .cons (D := w.heap.size) ⟨rfl, (World.putObj_heap_other (by omega)).trans q3⟩ (Nat.le_refl _) (by
            have := al.lt
            simp only [World.putObj, Array.size_setIfInBounds]
            omega) (.nil _), rfl⟩
          have hEs : EnvOk n (({ target := .collected w.heap.size, args := #[] } : Deferred) :: ds) Fi φi s' { a with defers := { target := .collected w.heap.size, args := #[] } :: a.defers } := ⟨by simp [hE.defers], hE.size, fun t => by rw [q5]; exact (hE.rep t).mono q1.fm q1.pm⟩
          rcases q6 with ⟨rfl, rfl⟩ | ⟨id, rfl, rfl⟩
          · simp only [hrec]
            refine wpAt_of_wp (wp_ret ?_)
            obtain ⟨ms, h1, rfl⟩ := fin (.loop { state := .exhausted, pending := some .ret, fn := f, tmps := a.tmps, params := ps, assign := asg, body := body, defers := w.heap.size })
            exact ⟨_, h1, Fi, φi, q1.putAside (by omega) _, q2.putAside al _, hEs⟩
          · simp only [hrec]
            refine wpAt_of_wp (wp_exit ?_)
            obtain ⟨ms, h1, rfl⟩ := fin (.loop { state := .exhausted, pending := some (.exit id), fn := f, tmps := a.tmps, params := ps, assign := asg, body := body, defers := w.heap.size })
            exact ⟨_, h1, Fi, φi, q1.putAside (by omega) _, q2.putAside al _, rfl, hEs⟩
        · obtain ⟨Fi, φi, pv, v, rfl, q1, q2, q3, q5, rfl, q6⟩ := hJ
          refine ⟨[{ target := .collected w.heap.size, args := #[] }], .cons (D := w.heap.size) ⟨rfl, q3⟩ (Nat.le_refl _) ?_ (.nil _), Fi, φi, q1, q2, ?_⟩
          · exact (Array.getElem?_eq_some_iff.1 q3).1
          · exact ⟨⟨by simp [hE.defers], hE.size, fun t => by rw [q5]; exact (hE.rep t).mono q1.fm q1.pm⟩, v, rfl, q6⟩
      · cases hrow
    · cases hr
  · cases hr

include hB hL hm in
theorem run_okAt {f : FuncId} {fn : Func} (hf : P.funcs[f]? = some fn) {wl : Nat} : ∀ (c : Code) {ds : List Deferred} (s : St) (ex : Ex) (s' : St) (F : FM) (φ : PM) (a : Act) (w : World), wfCodeR n c = true → run T O wl c s = some (ex, s') → (∀ d, wl ≤ d ∨ d = s.depth → W d) →
    Inv F φ s.stack w → EnvOk n ds F φ s a → wpAt P f c (OutsM W n ds F φ s.stack w ex s') a w
  | .seq x y, ds, s, ex, s', F, φ, a, w, hwf, h, hW, hI, hE => by
    simp only [wfCodeR, Bool.and_eq_true] at hwf
    simp only [run] at h
    cases hx : run T O wl x s with
    | none => rw [hx] at h; cases h
    | some q =>
      obtain ⟨ex1, s1⟩ := q
      rw [hx] at h
      refine wpAt_seq (wpAt_mono (run_okAt hf x s ex1 s1 F φ a w hwf.1 hx hW hI hE) fun e a1 w1 ho => ?_)
      by_cases hn : ex1 = .normal
      · subst hn
        simp only [] at h
        obtain ⟨ms, hms, F1, φ1, h1, h2, h3⟩ := ho
        obtain ⟨rfl, h3⟩ := h3.normal
        exact wpAt_mono (run_okAt hf y s1 ex s' F1 φ1 a1 w1 hwf.2 h (by rw [depth_of h1]; exact hW) h2 h3) fun _ _ _ g => g.start h1 h2 hms
      · have he : (ex1, s1) = (ex, s') := by
          cases ex1 with
          | normal => exact absurd rfl hn
          | _ => simpa using h
        injection he with e1 e2
        subst e1 e2
        obtain ⟨ms, hms, F1, φ1, h1, h2, h3⟩ := ho
        exact then_other ⟨ms, hms, F1, φ1, h1, h2, h3⟩ (h3.other hn)
  | .cond c x y, ds, s, ex, s', F, φ, a, w, hwf, h, hW, hI, hE => by
    simp only [wfCodeR, Bool.and_eq_true] at hwf
    simp only [run] at h
    cases hc : s.eval c with
    | bool t =>
      rw [hc] at h
      have hr := hE.eval c
      rw [hc] at hr
      refine wpAt_cond (rep_bool hr) ?_
      cases t with
      | true => exact run_okAt hf x s ex s' F φ a w hwf.1 h hW hI hE
      | false => exact run_okAt hf y s ex s' F φ a w hwf.2 h hW hI hE
    | _ => rw [hc] at h; cases h
  | .block id c, ds, s, ex, s', F, φ, a, w, hwf, h, hW, hI, hE => by
    simp only [wfCodeR] at hwf
    simp only [run] at h
    cases hx : run T O wl c s with
    | none => rw [hx] at h; cases h
    | some q =>
      obtain ⟨ex1, s1⟩ := q
      rw [hx] at h
      refine wpAt_block (wpAt_mono (run_okAt hf c s ex1 s1 F φ a w hwf hx hW hI hE) fun e a1 w1 ho => ?_)
      obtain ⟨ms, hms, F1, φ1, h1, h2, h3⟩ := ho
      cases ex1 with
      | exit id1 =>
        simp only [] at h
        cases e with
        | exit id2 =>
          obtain ⟨rfl, h3⟩ := h3
          simp only [Exit.inBlock]
          split at h <;> rename_i hid
          · rw [if_pos hid]
            simp only [Option.some.injEq, Prod.mk.injEq] at h
            obtain ⟨rfl, rfl⟩ := h
            exact ⟨ms, hms, F1, φ1, h1, h2, h3⟩
          · rw [if_neg hid]
            simp only [Option.some.injEq, Prod.mk.injEq] at h
            obtain ⟨rfl, rfl⟩ := h
            exact ⟨ms, hms, F1, φ1, h1, h2, rfl, h3⟩
        | _ => exact h3.elim
      | _ =>
        simp only [Option.some.injEq, Prod.mk.injEq] at h
        obtain ⟨rfl, rfl⟩ := h
        cases e with
        | exit id2 => exact h3.elim
        | _ => exact ⟨ms, hms, F1, φ1, h1, h2, h3⟩
  | .rangeFunc g ps asg body, ds, s, ex, s', F, φ, a, w, hwf, h, hW, hI, hE => range_ok hT hO hB hf hwf h hW hI hE
  | .skip, ds, s, ex, s', F, φ, a, w, hwf, h, hW, hI, hE => wpAt_of_wp (wp_mono (run_ok hT hO hL hm .skip s ex s' F φ a w hwf h hW hI hE) fun _ _ _ g => .of g)
  | .exit id, ds, s, ex, s', F, φ, a, w, hwf, h, hW, hI, hE => wpAt_of_wp (wp_mono (run_ok hT hO hL hm (.exit id) s ex s' F φ a w hwf h hW hI hE) fun _ _ _ g => .of g)
  | .ret, ds, s, ex, s', F, φ, a, w, hwf, h, hW, hI, hE => wpAt_of_wp (wp_mono (run_ok hT hO hL hm .ret s ex s' F φ a w hwf h hW hI hE) fun _ _ _ g => .of g)
  | .region id ops dr, ds, s, ex, s', F, φ, a, w, hwf, h, hW, hI, hE => wpAt_of_wp (wp_mono (run_ok hT hO hL hm (.region id ops dr) s ex s' F φ a w hwf h hW hI hE) fun _ _ _ g => .of g)
  | .loop c, ds, s, ex, s', F, φ, a, w, hwf, h, hW, hI, hE => wpAt_of_wp (wp_mono (run_ok hT hO hL hm (.loop c) s ex s' F φ a w hwf h hW hI hE) fun _ _ _ g => .of g)
  | .label .., _, _, _, _, _, _, _, _, hwf, _, _, _, _ => by cases hwf
  | .goto .., _, _, _, _, _, _, _, _, hwf, _, _, _, _ => by cases hwf
  | .scope .., _, _, _, _, _, _, _, _, hwf, _, _, _, _ => by cases hwf
  | .refuse .., _, _, _, _, _, _, _, _, hwf, _, _, _, _ => by cases hwf
end
end Go.GL
