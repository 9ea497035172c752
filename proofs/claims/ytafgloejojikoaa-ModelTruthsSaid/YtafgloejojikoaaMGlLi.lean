/-
  GL, part Li: what a range over a function needs: objects of the world that are no cells; code in a round; a round's end by a panic.
-/
import Derived.Test.YtafgloejojikoaaMGlK
import Derived.RangeFuncLeaves
import Derived.RangeFuncRecord
import Derived.RangeFuncSeq
import Derived.TacticsIn
set_option linter.unusedSimpArgs false
set_option linter.unusedVariables false
/-! GL, part Li: what a range over a function needs: objects of the world that are no cells; code in a round; a round's end by a panic. -/
namespace Go.GL

section
variable {F : FM} {φ : PM} {S : Heap} {w : World}

/-- An object that is no block of cells, and no map. -/
def Aside (w : World) (l : Nat) : Prop := ∃ o, w.heap[l]? = some o ∧ (∀ C t z, o ≠ .cells C t z) ∧ ∀ E c, o ≠ .map E c

theorem Inv.aside (h : Inv F φ S w) {l : Nat} (hl : Aside w l) {d k : Nat} {B : Blk} (hB : atS S d k = some B) : blkAt φ d k B ≠ some l := by
  intro hb
  obtain ⟨o, ho, hne, hnm⟩ := hl
  have hr := h.blk d k B hB
  cases B with
  | box cs =>
    obtain ⟨b, C, t, h1, h2, _⟩ := hr
    simp only [blkAt, h1, Option.map_some, Option.some.injEq] at hb
    subst hb
    rw [ho] at h2
    injection h2 with h2
    exact hne _ _ _ h2
  | arr live sz xs =>
    cases live with
    | true =>
      obtain ⟨b, C, t, h1, h2, _⟩ := hr
      simp only [blkAt, h1, Option.map_some, Option.some.injEq] at hb
      subst hb
      rw [ho] at h2
      injection h2 with h2
      exact hne _ _ _ h2
    | false => cases hb
  | mp es =>
    obtain ⟨b, E, c, h1, h2, _⟩ := hr
    simp only [blkAt, h1, Option.map_some, Option.some.injEq] at hb
    subst hb
    rw [ho] at h2
    injection h2 with h2
    exact hnm _ _ h2
  | gone => cases hb

theorem Aside.lt {l : Nat} (h : Aside w l) : l < w.heap.size := by
  obtain ⟨o, ho, _⟩ := h
  exact (Array.getElem?_eq_some_iff.1 ho).1

/-- It stays what it is. -/
theorem Adv.aside {W : Nat → Prop} {F' : FM} {φ' : PM} {S' : Heap} {w' : World} (a : Adv W F φ S w F' φ' S' w') (hI : Inv F φ S w) {l : Nat} (h : Aside w l) : w'.heap[l]? = w.heap[l]? :=
  (a.block l h.lt fun d k B hB hb => absurd hb (hI.aside h hB)).1

theorem cell_aside {w' : World} {l : Nat} (h : Aside w l) (hk : ∀ k, k ≠ l → w'.heap[k]? = w.heap[k]?) {b o : Nat} {v : Value} (hc : w.cell? ⟨b, o, none⟩ = some v) : w'.cell? ⟨b, o, none⟩ = some v := by
  obtain ⟨x, hx, hne, _⟩ := h
  by_cases hb : b = l
  · subst hb
    unfold World.cell? at hc
    simp only [hx] at hc
    cases x with
    | cells C t z => exact absurd rfl (hne C t z)
    | _ => simp at hc
  · unfold World.cell? at hc ⊢
    simp only [hk b hb]
    exact hc

theorem Inv.putAside (h : Inv F φ S w) {l : Nat} (hl : Aside w l) (o : Obj) : Inv F φ S (w.putObj l o) :=
  ⟨fun b off v e => cell_aside hl (fun k hk => World.putObj_heap_other hk) (h.cell b off v e), h.new,
    fun d k B hB => (h.blk d k B hB).keep (FM.le.refl _) (PM.le.refl _) (fun b hb => ⟨World.putObj_heap_other (fun e => h.aside hl hB (e ▸ hb)), fun o => h.free hB hb o⟩), h.sep, h.top⟩

theorem Adv.putAside {W : Nat → Prop} {F' : FM} {φ' : PM} {S' : Heap} {w' : World} (a : Adv W F φ S w F' φ' S' w') {l : Nat} (hl : w.heap.size ≤ l) (o : Obj) : Adv W F φ S w F' φ' S' (w'.putObj l o) :=
  ⟨a.fm, a.pm, a.len, a.os, a.tape, a.output, by have := a.size; simp only [World.putObj, Array.size_setIfInBounds]; exact this,
    fun i hi hn => ⟨(World.putObj_heap_other (by omega)).trans (a.block i hi hn).1, (a.block i hi hn).2⟩, a.old⟩

theorem Inv.lays (h : Inv F φ S w) (o : Obj) : Inv F φ S (w.alloc o) ∧ ∀ W, Adv W F φ S w F φ S (w.alloc o) := by
  have hk : ∀ k, k < w.heap.size → (w.alloc o).heap[k]? = w.heap[k]? := fun k hk => by
    show (w.heap.push o)[k]? = _
    rw [Array.getElem?_push_lt hk, Array.getElem?_eq_getElem hk]
  refine ⟨⟨fun b off v e => ?_, h.new, fun d k B hB => (h.blk d k B hB).keep (FM.le.refl _) (PM.le.refl _) (fun b hb => ⟨hk b (h.lt hB hb), fun o => h.free hB hb o⟩), h.sep, h.top⟩, fun W => ⟨FM.le.refl _, PM.le.refl _, rfl, rfl, rfl, rfl, by rw [World.size_alloc]; omega, fun i hi _ => ⟨hk i hi, fun _ => rfl⟩, fun _ _ B _ h1 h2 _ => ⟨B, h1, h2⟩⟩⟩
  have hc := h.cell b off v e
  have hb := World.block_lt_of_cell? w _ hc
  unfold World.cell? at hc ⊢
  simp only [hk b hb]
  exact hc
end

/-! ### The blocks of the rounds' deferred calls, their marks among the frame's own -/
def Mark (w : World) (d : Deferred) (D : Nat) : Prop := d = { target := .collected D, args := #[] } ∧ w.heap[D]? = some (.deferred (some []))

/-- Marks: each of a block of its own, from 'base' on, the last one first. -/
inductive Marks (base : Nat) (w : World) : Nat → List Deferred → Prop where
  | nil (top : Nat) : Marks base w top []
  | cons {top D : Nat} {d : Deferred} {ms : List Deferred} (hd : Mark w d D) (h0 : base ≤ D) (h1 : D < top) (h : Marks base w D ms) : Marks base w top (d :: ms)

theorem Marks.up {base : Nat} {w : World} {top top' : Nat} {ms : List Deferred} (h : Marks base w top ms) (ht : top ≤ top') : Marks base w top' ms := by
  cases h with
  | nil => exact .nil _
  | cons hd h0 h1 h => exact .cons hd h0 (by omega) h

theorem Marks.keep {base : Nat} {w w' : World} {top : Nat} {ms : List Deferred} (h : Marks base w top ms) (hk : ∀ D, base ≤ D → D < top → w.heap[D]? = some (.deferred (some [])) → w'.heap[D]? = w.heap[D]?) : Marks base w' top ms := by
  induction h with
  | nil => exact .nil _
  | @cons top D d ms hd h0 h1 h ih => exact .cons ⟨hd.1, (hk _ h0 h1 hd.2).trans hd.2⟩ h0 h1 (ih fun D' h2 h3 h4 => hk D' h2 (by omega) h4)

theorem Marks.append {base mid : Nat} {w : World} {top : Nat} {ms ns : List Deferred} (h : Marks mid w top ms) (g : Marks base w mid ns) (hb : base ≤ mid) (hm : mid ≤ top) : Marks base w top (ms ++ ns) := by
  induction h with
  | nil => exact g.up hm
  | cons hd h0 h1 h ih => exact .cons hd (by omega) h1 (ih (by omega))

theorem Marks.adv {base : Nat} {F F' : FM} {φ φ' : PM} {S S' : Heap} {w w' : World} {W : Nat → Prop} {top : Nat} {ms : List Deferred} (h : Marks base w top ms) (a : Adv W F φ S w F' φ' S' w') (hI : Inv F φ S w) : Marks base w' top ms :=
  h.keep fun D _ _ hD => a.aside hI ⟨_, hD, (fun _ _ _ e => by cases e), (fun _ _ e => by cases e)⟩

/-! ### A round's end, by a panic too -/
section
variable {F : Fence} {n : Nat} {P : Program}

def roundPostP (P : Program) (l : Nat) (R : Ending → World → Prop) : Exit → Act → World → Prop
  | .normal, _, w => ∃ v w', (Instr.endRound l none).run P w = .ok v w' ∧ R (.returned v) w'
  | .ret, _, w => ∃ v w', (Instr.endRound l (some .ret)).run P w = .ok v w' ∧ R (.returned v) w'
  | .exit id, _, w => ∃ v w', (Instr.endRound l (some (.exit id))).run P w = .ok v w' ∧ R (.returned v) w'
  | .panic chain, a, w => a.defers = [] ∧ R (.panicked chain) w
  | _, _, _ => False

theorem roundIn_panics {l : Nat} {f : FuncId} {fn : Func} {tmps : Array Value} {assign body : Code} {w : World} {R : Ending → World → Prop} (hf : P.funcs[f]? = some fn)
    (h : assign.wpIn (Fence.wide.inRound l) n P (Exit.then (fun a₁ w₁ => ∃ w₂, (Instr.beginRound l).run P w₁ = .ok () w₂ ∧ body.wpIn (Fence.wide.inRound l) n P (roundPostP P l R) a₁ w₂) (fun _ _ _ => False))
      { tmps := tmps, defers := [] } w) :
    RoundIn Fence.wide n P l f tmps assign body w R := by
  refine ⟨trivial, fun c cs hr => ?_⟩
  let b : Frame := { (default : Frame) with fn := f, kind := .normal, roundOf := some l }
  have hb0 : Frame.round l f tmps assign body .normal = b.atR { tmps := tmps, defers := [] } [.code assign, .beginRound, .code body] := by
    simp [Frame.round, Frame.atR, b]
  have hr' : (Fence.wide.inRound l).room ((c :: cs).length + 1 + n) := hr
  have hF' : (Fence.wide.inRound l).fn b.fn := trivial
  obtain ⟨e, a₁, w₁, hq, harr⟩ := h b [.beginRound, .code body] (c :: cs) rfl hF' hr'
  rw [← hb0] at harr
  cases e with
  | normal =>
    obtain ⟨w₂, hbr, hbody⟩ := hq
    have s1 : StepsIn (Machine.fenced P (Fence.wide.inRound l)) P (lone (b.atR a₁ [.beginRound, .code body]) (c :: cs) w₁) (lone (b.atR a₁ [.code body]) (c :: cs) w₂) :=
      .one (fenced_calm (fr := b.atR a₁ [.beginRound, .code body]) hF' hr' rfl) (stepR_beginRound rfl hbr)
    obtain ⟨e₂, a₂, w₃, hq₂, harr₂⟩ := hbody b [] (c :: cs) rfl hF' hr'
    cases e₂ with
    | normal =>
      obtain ⟨v, w₄, hend, hR⟩ := hq₂
      exact ⟨.returned v, w₄, hR, (StepsIn.trans harr s1).trans (StepsIn.trans harr₂ (.one (fenced_calm (fr := b.atR a₂ []) hF' hr' rfl) (stepR_round_end rfl rfl hend)))⟩
    | ret =>
      obtain ⟨v, w₄, hend, hR⟩ := hq₂
      obtain ⟨k₁, hs⟩ := harr₂.2 rfl
      exact ⟨.returned v, w₄, hR, (StepsIn.trans harr s1).trans (StepsIn.trans hs (.one (fenced_calm (fr := b.atR a₂ (.code .ret :: k₁)) hF' hr' rfl) (stepR_round_ret rfl rfl hend)))⟩
    | exit id =>
      obtain ⟨v, w₄, hend, hR⟩ := hq₂
      obtain ⟨k₁, hk, hs⟩ := harr₂.2 rfl rfl
      exact ⟨.returned v, w₄, hR, (StepsIn.trans harr s1).trans (StepsIn.trans hs (.one (fenced_calm (fr := b.atR a₂ (.code (.exit id) :: k₁)) hF' hr' rfl) (stepR_round_exit rfl rfl hk hend)))⟩
    | goto t => exact hq₂.elim
    | panic chain =>
      obtain ⟨hd, hR⟩ := hq₂
      obtain ⟨todo, hs⟩ := harr₂
      refine ⟨.panicked chain, w₃, hR, (StepsIn.trans harr s1).trans (StepsIn.trans hs (.one (fenced_wide P _) (step_leave_panicked (fr := { b.atR a₂ todo with mode := .panicking chain }) ⟨rfl, hd, fn, hf⟩)))⟩
    | outgrown => exact hq₂.elim
  | exit id => exact hq.elim
  | goto t => exact hq.elim
  | ret => exact hq.elim
  | panic chain => exact hq.elim
  | outgrown => exact hq.elim
end

/-! ### Code in a round -/
theorem wpIn_of_wp {P : Program} {l m : Nat} {o : Oper} {a : Act} {w : World} {K : Act → World → Prop} {Q : Exit → Act → World → Prop} (hd : ∀ c, o.op ≠ .defer c) (h : o.wp P a w K Q) : o.wpIn (Fence.wide.inRound l) m P a w K Q := by
  refine ⟨fun _ _ => trivial, ?_⟩
  rw [show (Fence.wide.inRound l).round = some l from rfl, Oper.semAt_eq (some l) a.eval o hd]
  unfold Oper.wp at h
  generalize (execOp a.eval o).run P w = r at h
  cases r with
  | halt x w' =>
    cases x <;> first | exact h | exact h.elim
  | ok x w' =>
    cases x with
    | enter f args => exact ⟨fun e => by simp [Fence.wide] at e, (callsIn_wide (n := m - 1)).2 h⟩
    | row r args =>
      refine ⟨fun e => by simp [Fence.wide] at e, fun c cs _ => ?_⟩
      obtain ⟨v, w'', h1, h2⟩ := h c cs
      exact ⟨v, w'', h1, stepsIn_wide.2 h2⟩
    | _ => first | exact h | exact h.elim

section
variable {P : Program} {T : Tab} {O : Orc} {n : Nat} {ds : List Deferred} {W : Nat → Prop} {l m : Nat}

theorem opRun_plain {wl : Nat} {o : Oper} {s : St} {q : OpR × St} (h : opRun T O wl o s = some q) : ∀ c, o.op ≠ .defer c := by
  intro c hc
  unfold opRun at h
  split at h
  · rename_i hh; rw [hh] at hc; cases hc
  · rename_i hh; rw [hh] at hc; cases hc
  · rename_i hh; rw [hh] at hc; cases hc
  · rename_i hh; rw [hh] at hc; cases hc
  · rename_i hh; rw [hh] at hc; cases hc
  · rename_i hh; rw [hh] at hc; cases hc
  · rw [hc] at h
    simp only [isMake, Bool.false_eq_true, if_false] at h
    unfold pureOp at h
    rw [hc] at h
    cases h

theorem runOps_okIn (hT : TOk P T) (hO : CallOk P O) {wl : Nat} {ops : Array Oper} (hwf : wfOps n ops = true) {Fs : FM} {φs : PM} {S : Heap} {ws : World} :
    ∀ (os : List Oper) (s : St) (a : Act) (w : World) (F : FM) (φ : PM) (ex : Ex) (s' : St), (∀ o ∈ os, ∀ d, o.dst = some d → d < n) → runOps T O wl ops os s = some (ex, s') → (∀ d, wl ≤ d ∨ d = s.depth → W d) →
      Adv W Fs φs S ws F φ s.stack w → Inv F φ s.stack w → EnvOk n ds F φ s a → wpListIn (Fence.wide.inRound l) m P ops (Outs W n ds Fs φs S ws ex s') os a w
  | [], s, a, w, F, φ, ex, s', _, h, _, hA, hI, hE => by
    simp only [runOps, Option.some.injEq, Prod.mk.injEq] at h
    obtain ⟨rfl, rfl⟩ := h
    exact ⟨F, φ, hA, hI, hE⟩
  | o :: os, s, a, w, F, φ, ex, s', hd, h, hW, hA, hI, hE => by
    unfold runOps at h
    refine wpListIn_step fun K hK => ?_
    have next : ∀ (v : PV) (s1 : St) (F' : FM) (φ' : PM) (w' : World) (u : Value), runOps T O wl ops os (s1.put o.dst v) = some (ex, s') → s1.env = s.env → Adv W F φ s.stack w F' φ' s1.stack w' → Inv F' φ' s1.stack w' → Rep F' φ' v u → K (a.put o.dst u) w' := by
      intro v s1 F' φ' w' u h1 h2 h3 h4 h5
      have p3 := s1.put_stack o.dst v
      refine hK _ _ (runOps_okIn hT hO hwf os (s1.put o.dst v) _ w' F' φ' ex s' (fun o ho => hd o (by simp [ho])) h1 (fun d hdd => hW d (hdd.imp id fun e => ?_)) ?_ ?_ ?_)
      · have := h3.len
        simp only [St.stack, List.length_cons] at this
        unfold St.depth at e ⊢
        rw [p3.2.2] at e
        omega
      · rw [p3.1]; exact hA.trans h3
      · rw [p3.1]; exact h4
      · exact (hE.mono h3.fm h3.pm h2).put (hd o (by simp)) h5
    cases hw : wantedP ops o s with
    | none =>
      have : stepOp T O wl ops o s = none := by unfold stepOp; rw [hw]
      rw [this] at h
      cases h
    | some b =>
      rw [wantedP_ok hE hwf hw]
      cases b with
      | false =>
        have : stepOp T O wl ops o s = some (.val undefP, s) := by unfold stepOp; rw [hw]; rfl
        rw [this] at h
        exact ⟨fun _ _ => trivial, next _ s F φ w undef h rfl (Adv.refl _ _ _ _ _) hI (rep_undef _ _)⟩
      | true =>
        have : stepOp T O wl ops o s = opRun T O wl o s := by unfold stepOp; rw [hw]; rfl
        rw [this] at h
        cases hop : opRun T O wl o s with
        | none => rw [hop] at h; cases h
        | some q =>
          obtain ⟨r, s1⟩ := q
          rw [hop] at h
          obtain ⟨hst, henv⟩ := opRun_ok (a := a) hT hO hW hI hE hop
          refine wpIn_of_wp (opRun_plain hop) (hst K _ (fun p hp F' φ' w' u q1 q2 q3 => ?_) (fun p hp F' φ' w' u q1 q2 q3 => ?_))
          · subst hp
            exact next p s1 F' φ' w' u h henv q1 q2 q3
          · subst hp
            simp only [Option.some.injEq, Prod.mk.injEq] at h
            obtain ⟨rfl, rfl⟩ := h
            exact ⟨F', φ', hA.trans q1, q2, hE.mono q1.fm q1.pm henv, u, rfl, q3⟩

theorem RelEx.normal {F : FM} {φ : PM} {s : St} {a : Act} {e : Exit} (h : RelEx n ds F φ s a .normal e) : e = .normal ∧ EnvOk n ds F φ s a := by
  cases e with
  | normal => exact ⟨rfl, h⟩
  | _ => exact h.elim

theorem RelEx.other {F : FM} {φ : PM} {s : St} {a : Act} {ex : Ex} {e : Exit} (h : RelEx n ds F φ s a ex e) (hn : ex ≠ .normal) : e ≠ .normal := by
  intro he
  subst he
  cases ex with
  | normal => exact hn rfl
  | _ => exact h

theorem then_other {N : Act → World → Prop} {Q : Exit → Act → World → Prop} {e : Exit} {a : Act} {w : World} (h : Q e a w) (he : e ≠ .normal) : Exit.then N Q e a w := by
  cases e with
  | normal => exact absurd rfl he
  | _ => exact h

theorem depth_of {F F' : FM} {φ φ' : PM} {s s' : St} {w w' : World} (h : Adv W F φ s.stack w F' φ' s'.stack w') : s'.depth = s.depth := by
  have := h.len
  simp only [St.stack, List.length_cons] at this
  unfold St.depth
  omega

theorem Outs.start {F F1 : FM} {φ φ1 : PM} {S S1 : Heap} {w w1 : World} {ex : Ex} {s' : St} {e : Exit} {a' : Act} {w' : World} (h : Adv W F φ S w F1 φ1 S1 w1) (g : Outs W n ds F1 φ1 S1 w1 ex s' e a' w') : Outs W n ds F φ S w ex s' e a' w' := by
  obtain ⟨F', φ', h1, h2, h3⟩ := g
  exact ⟨F', φ', h.trans h1, h2, h3⟩

variable (hT : TOk P T) (hO : CallOk P O)
include hT hO

theorem run_okIn {wl : Nat} : ∀ (c : Code) (s : St) (ex : Ex) (s' : St) (F : FM) (φ : PM) (a : Act) (w : World), wfCode n c = true → inCode c = true → run T O wl c s = some (ex, s') → (∀ d, wl ≤ d ∨ d = s.depth → W d) →
    Inv F φ s.stack w → EnvOk n ds F φ s a → c.wpIn (Fence.wide.inRound l) m P (Outs W n ds F φ s.stack w ex s') a w
  | .skip, s, ex, s', F, φ, a, w, hwf, hin, h, hW, hI, hE => by
    simp only [run, Option.some.injEq, Prod.mk.injEq] at h
    obtain ⟨rfl, rfl⟩ := h
    exact wpIn_skip ⟨F, φ, Adv.refl _ _ _ _ _, hI, hE⟩
  | .exit id, s, ex, s', F, φ, a, w, hwf, hin, h, hW, hI, hE => by
    simp only [run, Option.some.injEq, Prod.mk.injEq] at h
    obtain ⟨rfl, rfl⟩ := h
    exact wpIn_exit ⟨F, φ, Adv.refl _ _ _ _ _, hI, rfl, hE⟩
  | .ret, s, ex, s', F, φ, a, w, hwf, hin, h, hW, hI, hE => by
    simp only [run, Option.some.injEq, Prod.mk.injEq] at h
    obtain ⟨rfl, rfl⟩ := h
    exact wpIn_ret ⟨F, φ, Adv.refl _ _ _ _ _, hI, hE⟩
  | .region id ops false, s, ex, s', F, φ, a, w, hwf, hin, h, hW, hI, hE => by
    simp only [run] at h
    simp only [wfCode, Bool.and_eq_true] at hwf
    exact wpIn_region_list (runOps_okIn hT hO hwf.1 ops.toList s a w F φ ex s' (fun o ho d hd => by
      obtain ⟨i, hi⟩ := List.getElem?_of_mem ho
      exact wf_dst hwf.1 (by simpa using hi) d hd) h hW (Adv.refl _ _ _ _ _) hI hE)
  | .region id ops true, s, ex, s', F, φ, a, w, hwf, hin, h, hW, hI, hE => by cases hin
  | .seq x y, s, ex, s', F, φ, a, w, hwf, hin, h, hW, hI, hE => by
    simp only [wfCode, Bool.and_eq_true] at hwf
    simp only [inCode, Bool.and_eq_true] at hin
    simp only [run] at h
    cases hx : run T O wl x s with
    | none => rw [hx] at h; cases h
    | some q =>
      obtain ⟨ex1, s1⟩ := q
      rw [hx] at h
      refine wpIn_seq (wpIn_mono (run_okIn x s ex1 s1 F φ a w hwf.1 hin.1 hx hW hI hE) fun e a1 w1 ho => ?_)
      by_cases hn : ex1 = .normal
      · subst hn
        simp only [] at h
        obtain ⟨F1, φ1, h1, h2, h3⟩ := ho
        obtain ⟨rfl, h3⟩ := h3.normal
        exact wpIn_mono (run_okIn y s1 ex s' F1 φ1 a1 w1 hwf.2 hin.2 h (by rw [depth_of h1]; exact hW) h2 h3) fun _ _ _ g => g.start h1
      · have he : (ex1, s1) = (ex, s') := by
          cases ex1 with
          | normal => exact absurd rfl hn
          | _ => simpa using h
        injection he with e1 e2
        subst e1 e2
        obtain ⟨F1, φ1, h1, h2, h3⟩ := ho
        exact then_other ⟨F1, φ1, h1, h2, h3⟩ (h3.other hn)
  | .cond c x y, s, ex, s', F, φ, a, w, hwf, hin, h, hW, hI, hE => by
    simp only [wfCode, Bool.and_eq_true] at hwf
    simp only [inCode, Bool.and_eq_true] at hin
    simp only [run] at h
    cases hc : s.eval c with
    | bool t =>
      rw [hc] at h
      have hr := hE.eval c
      rw [hc] at hr
      refine wpIn_cond (rep_bool hr) ?_
      cases t with
      | true => exact run_okIn x s ex s' F φ a w hwf.1 hin.1 h hW hI hE
      | false => exact run_okIn y s ex s' F φ a w hwf.2 hin.2 h hW hI hE
    | _ => rw [hc] at h; cases h
  | .block id c, s, ex, s', F, φ, a, w, hwf, hin, h, hW, hI, hE => by
    simp only [wfCode] at hwf
    simp only [inCode] at hin
    simp only [run] at h
    cases hx : run T O wl c s with
    | none => rw [hx] at h; cases h
    | some q =>
      obtain ⟨ex1, s1⟩ := q
      rw [hx] at h
      refine wpIn_block (wpIn_mono (run_okIn c s ex1 s1 F φ a w hwf hin hx hW hI hE) fun e a1 w1 ho => ?_)
      obtain ⟨F1, φ1, h1, h2, h3⟩ := ho
      cases ex1 with
      | exit id1 =>
        simp only [] at h
        cases e with
        | exit id2 =>
          obtain ⟨rfl, h3⟩ := h3
          simp only [Exit.inBlock]
          split at h <;> rename_i hid
          · rw [if_pos hid]
            simp only [Option.some.injEq, Prod.mk.injEq] at h
            obtain ⟨rfl, rfl⟩ := h
            exact ⟨F1, φ1, h1, h2, h3⟩
          · rw [if_neg hid]
            simp only [Option.some.injEq, Prod.mk.injEq] at h
            obtain ⟨rfl, rfl⟩ := h
            exact ⟨F1, φ1, h1, h2, rfl, h3⟩
        | _ => exact h3.elim
      | _ =>
        simp only [Option.some.injEq, Prod.mk.injEq] at h
        obtain ⟨rfl, rfl⟩ := h
        cases e with
        | exit id2 => exact h3.elim
        | _ => exact ⟨F1, φ1, h1, h2, h3⟩
  | .loop .., _, _, _, _, _, _, _, _, hin, _, _, _, _ => by cases hin
  | .rangeFunc .., _, _, _, _, _, _, _, _, hin, _, _, _, _ => by cases hin
  | .label .., _, _, _, _, _, _, _, hwf, _, _, _, _, _ => by cases hwf
  | .goto .., _, _, _, _, _, _, _, hwf, _, _, _, _, _ => by cases hwf
end
end Go.GL
