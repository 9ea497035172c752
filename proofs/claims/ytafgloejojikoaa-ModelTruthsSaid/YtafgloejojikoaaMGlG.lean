/-
  GL, part G: regions that draw their order: the interpreter may take any order that the edges let.
-/
import Derived.Test.YtafgloejojikoaaMGlF
import Derived.Orders
set_option linter.unusedSimpArgs false
set_option linter.unusedVariables false
/-! GL, part G: regions that draw their order: the interpreter may take any order that the edges let. -/
namespace Go.GL

/-! ### What stands before -/
theorem before_closed (ops : Array Oper) (D : Nat → Prop) (hD : ∀ j o, D j → ops[j]? = some o → ∀ e ∈ o.after, Region.binds .any e = true → D e.on)
    (i : Nat) (hi : ∀ o, ops[i]? = some o → ∀ e ∈ o.after, Region.binds .any e = true → D e.on) (a : Nat) (h : ((Region.before ops).getD i 0).testBit a = true) : D a := by
  let Good : Array Nat → Nat → Prop := fun acc j => (∀ o, ops[j]? = some o → ∀ e ∈ o.after, Region.binds .any e = true → D e.on) → ∀ a, (acc.getD j 0).testBit a = true → D a
  have key : (Region.before ops).size = ops.size ∧ ∀ j, j < ops.size → Good (Region.before ops) j := by
    unfold Region.before
    refine Array.foldl_induction (motive := fun (m : Nat) (acc : Array Nat) => acc.size = m ∧ ∀ j, j < m → Good acc j) ⟨rfl, fun j hj => absurd hj (Nat.not_lt_zero _)⟩ ?_
    intro m acc ih
    obtain ⟨hs, ih⟩ := ih
    refine ⟨by simp [hs], fun j hj => ?_⟩
    by_cases hjm : j < m.1
    · intro hdir a ha
      refine ih j hjm hdir a ?_
      have e : (acc.push (Array.foldl (fun s e => if Region.binds .any e = true then s ||| 2 ^ e.on ||| acc.getD e.on 0 else s) 0 ops[m].after)).getD j 0 = acc.getD j 0 := by
        simp only [Array.getD_eq_getD_getElem?]
        rw [Array.getElem?_push, if_neg (by omega)]
      rw [← e]
      exact ha
    · have hjm' : j = m.1 := by omega
      subst hjm'
      intro hdir a ha
      have hdir' : ∀ e ∈ ops[m].after, Region.binds .any e = true → D e.on := hdir ops[m] (by simp)
      have e : (acc.push (Array.foldl (fun s e => if Region.binds .any e = true then s ||| 2 ^ e.on ||| acc.getD e.on 0 else s) 0 ops[m].after)).getD m.1 0 =
          Array.foldl (fun s e => if Region.binds .any e = true then s ||| 2 ^ e.on ||| acc.getD e.on 0 else s) 0 ops[m].after := by
        rw [Array.getD_eq_getD_getElem?]
        rw [Array.getElem?_push, if_pos hs.symm]
        rfl
      have ha' : (Array.foldl (fun s e => if Region.binds .any e = true then s ||| 2 ^ e.on ||| acc.getD e.on 0 else s) 0 ops[m].after).testBit a = true := by
        rw [← e]
        exact ha
      have inner : ∀ (l : List Edge) (s : Nat), (∀ e ∈ l, Region.binds .any e = true → D e.on) → (s.testBit a = true → D a) →
          (l.foldl (fun s e => if Region.binds .any e = true then s ||| 2 ^ e.on ||| acc.getD e.on 0 else s) s).testBit a = true → D a := by
        intro l
        induction l with
        | nil => exact fun s _ h0 h1 => h0 h1
        | cons e l ihl =>
          intro s hl h0 h1
          rw [List.foldl_cons] at h1
          refine ihl _ (fun e' he' => hl e' (List.mem_cons_of_mem _ he')) ?_ h1
          intro h2
          split at h2
          · rename_i hb
            have hDe := hl e List.mem_cons_self hb
            simp only [Nat.testBit_or, Bool.or_eq_true, Nat.testBit_two_pow, decide_eq_true_eq] at h2
            rcases h2 with (h2 | h2) | h2
            · exact h0 h2
            · exact h2 ▸ hDe
            · by_cases hlt : e.on < m.1
              · exact ih e.on hlt (fun o ho => hD e.on o hDe ho) a h2
              · rw [Array.getD_eq_getD_getElem?, Array.getElem?_eq_none (by omega)] at h2
                simp at h2
          · exact h0 h2
      rw [← Array.foldl_toList] at ha'
      exact inner _ 0 (fun e he => hdir' e (by simpa using he)) (by simp) ha'
  by_cases hlt : i < ops.size
  · exact key.2 i hlt hi a h
  · rw [Array.getD_eq_getD_getElem?, Array.getElem?_eq_none (by rw [key.1]; omega)] at h
    simp at h

section
variable (T : Tab) (O : Orc) (wl : Nat) (ops : Array Oper) (L0 : List Blk)

/-- What a step changes but for its slot. -/
inductive Eff where
  | no | blk (b : Blk) | st (t : Nat) (x y : PV) | own (t : Nat) (x y : PV) | app (k : Nat) (b : Blk)

def effD (i : Nat) (e : Eff) (s : St) : Option St :=
  match e with
  | .no => some s
  | .blk b => some { s with L := s.L.set (L0.length + i) b }
  | .st t x y => (storeS T wl t x y s.stack).bind (withStack s)
  | .own t x y => ownStore T wl L0 t x y s
  | .app k b => some { s with L := s.L.set k b }

def readOther (i : Nat) (o : Oper) (s : St) : Option (OpR × Eff) :=
  if isMake o.op then (makeOp T o s (L0 :: s.H) s.depth (L0.length + i)).map fun q => (.val q.1, .blk q.2) else (pureOp T o s (L0 :: s.H)).map fun r => (r, .no)

def retRead (sl : Bool) (i : Nat) (s : St) : Option (Out × Heap) → Option (OpR × Eff)
  | some (.ret v, S) => if isDataT v then some (.val v, .no) else (keptR sl s.depth L0.length (L0.length + i) v S).map fun q => (.val q.1, .blk q.2)
  | some (.panic v, _) => if isData v then some (.panic v, .no) else none
  | none => none
def callRead (sl : Bool) (i : Nat) (f : Operand) (args : Array Operand) (s : St) : Option (OpR × Eff) :=
  match targetOf (s.eval f) (args.toList.map s.eval) with
  | some (g, args) => match frzL (L0 :: s.H) s.depth true args with
    | some args' => if thereL (L0 :: s.H) args' then retRead L0 sl i s (O.call g (s.depth + 1) args' (L0 :: s.H)) else none
    | none => none
  | none => none

def readD (i : Nat) (o : Oper) (s : St) : Option (OpR × Eff) :=
  match o.op with
  | .store t x y => some (.val undefP, .st t (s.eval x) (s.eval y))
  | .call ⟨.value f, args, _⟩ => callRead O L0 false i f args s
  | .call ⟨.builtin .append, args, tys⟩ => (appRead T wl L0 args tys s).map fun q => (.val q.1, .app q.2.1 q.2.2)
  | .insert .. => none
  | .mapUpdate .. => none
  | _ => readOther T L0 i o s

def readOwn (o : Oper) (s : St) : Option (OpR × Eff) :=
  match o.op with
  | .store t x y => some (.val undefP, .own t (s.eval x) (s.eval y))
  | _ => none
def readSeal (i : Nat) (o : Oper) (s : St) : Option (OpR × Eff) :=
  match o.op with
  | .call ⟨.value f, args, _⟩ => callRead O L0 true i f args s
  | _ => none
def readS (i : Nat) (o : Oper) (s : St) : Option (OpR × Eff) :=
  bif lateOf ops o then (pureOp T o s []).map (fun r => (r, .no)) else bif newSt ops o then readOwn o s else bif sealOp ops o then readSeal O L0 i o s else readD T O wl L0 i o s

def whatD (i : Nat) (o : Oper) (s : St) : Option (OpR × Eff) :=
  match wantedP ops o s with
  | some b => if b then readS T O wl ops L0 i o s else some (.val undefP, .no)
  | none => none

theorem retDraw_read (sl : Bool) (i : Nat) (s : St) (o : Option (Out × Heap)) : retDraw sl L0 i s o = (retRead L0 sl i s o).bind fun q => (effD T wl L0 i q.2 s).map fun s' => (q.1, s') := by
  match o with
  | none => rfl
  | some (.panic v, S) =>
    simp only [retDraw, retRead]
    split <;> rfl
  | some (.ret v, S) =>
    simp only [retDraw, retRead]
    split
    · rfl
    · cases keptR sl s.depth L0.length (L0.length + i) v S <;> rfl

theorem callDraw_read (sl : Bool) (i : Nat) (f : Operand) (args : Array Operand) (s : St) : callDraw O sl L0 i f args s = (callRead O L0 sl i f args s).bind fun q => (effD T wl L0 i q.2 s).map fun s' => (q.1, s') := by
  unfold callDraw callRead
  cases targetOf (s.eval f) (args.toList.map s.eval) with
  | none => rfl
  | some p =>
    obtain ⟨g, as⟩ := p
    simp only []
    cases frzL (L0 :: s.H) s.depth true as with
    | none => rfl
    | some as' =>
      simp only []
      split
      · exact retDraw_read T wl L0 sl i s _
      · rfl

theorem opDraw_read (i : Nat) (o : Oper) (s : St) : opDraw T O wl L0 i o s = (readD T O wl L0 i o s).bind fun q => (effD T wl L0 i q.2 s).map fun s' => (q.1, s') := by
  unfold opDraw
  split
  · rename_i t x y ho
    have hr : readD T O wl L0 i o s = some (.val undefP, .st t (s.eval x) (s.eval y)) := by unfold readD; simp only [ho]
    rw [hr]
    simp only [storeOp, effD, Option.bind_some]
    cases storeS T wl t (s.eval x) (s.eval y) s.stack with
    | none => rfl
    | some S => rfl
  · rename_i f args tys ho
    have hr : readD T O wl L0 i o s = callRead O L0 false i f args s := by unfold readD; simp only [ho]
    rw [hr]
    exact callDraw_read T O wl L0 false i f args s
  · rename_i args tys ho
    have hr : readD T O wl L0 i o s = (appRead T wl L0 args tys s).map fun q => (.val q.1, .app q.2.1 q.2.2) := by unfold readD; simp only [ho]
    rw [hr]
    unfold appDraw
    cases appRead T wl L0 args tys s <;> rfl
  · rename_i ho
    have hr : readD T O wl L0 i o s = none := by unfold readD; simp only [ho]
    rw [hr]
    rfl
  · rename_i ho
    have hr : readD T O wl L0 i o s = none := by unfold readD; simp only [ho]
    rw [hr]
    rfl
  · rename_i h1 h2 h3 h4 h5
    have hr : readD T O wl L0 i o s = readOther T L0 i o s := by
      unfold readD
      split
      · rename_i ho; exact absurd ho (h1 _ _ _)
      · rename_i ho; exact absurd ho (h2 _ _ _)
      · rename_i ho; exact absurd ho (h3 _ _)
      · rename_i ho; exact absurd ho (h4 _ _ _ _)
      · rename_i ho; exact absurd ho (h5 _ _ _ _)
      · rfl
    rw [hr]
    unfold readOther
    split
    · unfold makeDraw
      cases makeOp T o s (L0 :: s.H) s.depth (L0.length + i) with
      | none => rfl
      | some q => rfl
    · cases pureOp T o s (L0 :: s.H) with
      | none => rfl
      | some q => rfl

theorem opSoft_read (i : Nat) (o : Oper) (s : St) : opSoft T O wl ops L0 i o s = (readS T O wl ops L0 i o s).bind fun q => (effD T wl L0 i q.2 s).map fun s' => (q.1, s') := by
  unfold opSoft readS
  cases lateOf ops o with
  | true =>
    simp only [cond_true]
    cases pureOp T o s [] <;> rfl
  | false =>
    simp only [cond_false]
    cases newSt ops o with
    | true =>
      simp only [cond_true]
      obtain ⟨dst, op, ty, pos, after, gd⟩ := o
      cases op <;> rfl
    | false =>
      simp only [cond_false]
      cases sealOp ops o with
      | false => exact opDraw_read T O wl L0 i o s
      | true =>
        simp only [cond_true]
        unfold sealDraw readSeal
        split
        · rename_i f args tys ho
          simp only [ho]
          exact callDraw_read T O wl L0 true i f args s
        · rename_i hne
          split
          · rename_i ho; exact absurd ho (hne _ _ _)
          · rfl

theorem stepDraw_what (i : Nat) (o : Oper) (s : St) : stepDraw T O wl ops L0 i o s = (whatD T O wl ops L0 i o s).bind fun q => (effD T wl L0 i q.2 s).map fun s' => (q.1, s') := by
  unfold stepDraw whatD
  cases wantedP ops o s with
  | none => rfl
  | some b =>
    cases b with
    | true => exact opSoft_read T O wl ops L0 i o s
    | false => rfl

/-! ### On what it hangs -/
theorem eval_congr {s s' : St} {o : Oper} (h : ∀ t ∈ o.looksAt ops, s.env t = s'.env t) (x : Operand) (hx : x ∈ o.op.operands) : s.eval x = s'.eval x := by
  cases x with
  | tmp t => exact h t (List.mem_append_left _ (List.mem_filterMap.2 ⟨.tmp t, by simpa using hx, rfl⟩))
  | _ => rfl

theorem map_congr_mem {α β : Type} {l : List α} {f g : α → β} (h : ∀ x ∈ l, f x = g x) : l.map f = l.map g := List.map_congr_left h

theorem wantedP_congr {s s' : St} {o : Oper} (h : ∀ t ∈ o.looksAt ops, s.env t = s'.env t) : wantedP ops o s = wantedP ops o s' := by
  unfold wantedP
  cases hg : o.guard with
  | none => rfl
  | some gw =>
    obtain ⟨j, b⟩ := gw
    have : guardP ops s j = guardP ops s' j := by
      unfold guardP
      cases hd : (ops[j]?).bind (·.dst) with
      | none => rfl
      | some d => simp only [Option.map_some]; rw [h d (by simp [Oper.looksAt, hg, hd])]
    simp only [this]

theorem pureOp_congr {s s' : St} {o : Oper} (h : ∀ x ∈ o.op.operands, s.eval x = s'.eval x) (S : Heap) : pureOp T o s S = pureOp T o s' S := by
  obtain ⟨dst, op, ty, pos, after, gd⟩ := o
  have pairs : ∀ ps : Array (Nat × Operand), (∀ x ∈ (ps.toList.map (·.2)).toArray, s.eval x = s'.eval x) → (ps.toList.map fun p => (p.1, s.eval p.2)) = (ps.toList.map fun p => (p.1, s'.eval p.2)) := fun ps hp =>
    List.map_congr_left fun p hm => by rw [hp p.2 (by simp; exact ⟨p.1, by simpa using hm⟩)]
  have lists : ∀ ps : Array Operand, (∀ x ∈ ps, s.eval x = s'.eval x) → ps.toList.map s.eval = ps.toList.map s'.eval := fun ps hp => List.map_congr_left fun p hm => hp p (by simpa using hm)
  cases op with
  | build t ps => simp only [pureOp]; rw [pairs ps (by simpa [Op.operands] using h)]
  | makeFunc f a b =>
    simp only [pureOp]
    rw [lists a (fun x hx => h x (by simp [Op.operands, hx])), lists b (fun x hx => h x (by simp [Op.operands, hx]))]
  | call c =>
    obtain ⟨callee, args, tys⟩ := c
    have := lists args (fun x hx => h x (by simp [Op.operands, Call.operands, hx]))
    simp only [pureOp, this]
  | slice t x lo hi m =>
    have hx := h x (by simp [Op.operands])
    cases m with
    | some m => rfl
    | none =>
      have e1 : lo.map s.eval = lo.map s'.eval := by
        cases lo with
        | none => rfl
        | some y => simp only [Option.map_some]; rw [h y (by simp [Op.operands])]
      have e2 : hi.map s.eval = hi.map s'.eval := by
        cases hi with
        | none => rfl
        | some y => simp only [Option.map_some]; rw [h y (by simp [Op.operands])]
      simp only [pureOp, hx, e1, e2]
  | _ => first | rfl | (simp [Op.operands] at h; simp [pureOp, h]; done)

theorem makeOp_congr {s s' : St} {o : Oper} (h : ∀ x ∈ o.op.operands, s.eval x = s'.eval x) (S : Heap) (d k : Nat) : makeOp T o s S d k = makeOp T o s' S d k := by
  obtain ⟨dst, op, ty, pos, after, gd⟩ := o
  cases op with
  | buildSlice t len ps =>
    have : (ps.toList.map fun p => s.eval p.2) = (ps.toList.map fun p => s'.eval p.2) :=
      List.map_congr_left fun p hm => h p.2 (by simp [Op.operands]; exact ⟨p.1, by simpa using hm⟩)
    simp only [makeOp, this]
  | makeMap t r => cases r <;> rfl
  | _ => first | rfl | (simp [Op.operands] at h; simp [makeOp, h]; done)

theorem callRead_congr {sl : Bool} {s s' : St} {i : Nat} {f : Operand} {args : Array Operand} (hf : s.eval f = s'.eval f) (ha : ∀ x ∈ args, s.eval x = s'.eval x) (hH : s.H = s'.H) :
    callRead O L0 sl i f args s = callRead O L0 sl i f args s' := by
  have hl : args.toList.map s.eval = args.toList.map s'.eval := List.map_congr_left fun p hm => ha p (by simpa using hm)
  unfold callRead retRead St.depth
  rw [hf, hl, hH]

theorem appRead_congr {s s' : St} {args : Array Operand} {tys : Array TypeId} (ha : ∀ x ∈ args, s.eval x = s'.eval x) (hH : s.H = s'.H) (hL : s.L = s'.L) :
    appRead T wl L0 args tys s = appRead T wl L0 args tys s' := by
  have hl : args.toList.map s.eval = args.toList.map s'.eval := List.map_congr_left fun p hm => ha p (by simpa using hm)
  unfold appRead St.stack St.depth
  rw [hl, hH, hL]

theorem pureOp_free {s : St} {o : Oper} (h : usesState o.op = false) (S S' : Heap) : pureOp T o s S = pureOp T o s S' := by
  obtain ⟨dst, op, ty, pos, after, gd⟩ := o
  cases op with
  | slice t x lo hi m => cases m <;> rfl
  | call c =>
    obtain ⟨callee, args, tys⟩ := c
    cases callee with
    | value f => rfl
    | invoke r m => rfl
    | builtin b => cases b <;> first | rfl | (simp [usesState] at h; done)
  | _ => first | rfl | (simp [usesState] at h; done)

theorem readOther_congr {s s' : St} {i : Nat} {o : Oper} (he : ∀ x ∈ o.op.operands, s.eval x = s'.eval x) (hH : usesState o.op = true → s.H = s'.H) : readOther T L0 i o s = readOther T L0 i o s' := by
  unfold readOther
  split
  · rename_i hm
    have hu : usesState o.op = true := by
      obtain ⟨dst, op, ty, pos, after, gd⟩ := o
      cases op <;> first | rfl | (simp [isMake] at hm; done)
    have := hH hu
    unfold St.depth
    rw [this, makeOp_congr T he]
  · rw [pureOp_congr T he]
    cases hu : usesState o.op with
    | true => rw [hH hu]
    | false => rw [pureOp_free T hu (L0 :: s.H) (L0 :: s'.H)]

theorem readD_congr {s s' : St} {i : Nat} {o : Oper} (he : ∀ x ∈ o.op.operands, s.eval x = s'.eval x) (hH : usesState o.op = true → isStore o.op = false → s.H = s'.H) (hL : isApp o.op = true → s.L = s'.L) : readD T O wl L0 i o s = readD T O wl L0 i o s' := by
  unfold readD
  split
  · rename_i t x y ho
    have h1 := he x (by simp [ho, Op.operands])
    have h2 := he y (by simp [ho, Op.operands])
    rw [h1, h2]
  · rename_i f args tys ho
    have hu := hH (by simp [ho, usesState]) (by simp [ho, isStore])
    exact callRead_congr O L0 (he f (by simp [ho, Op.operands, Call.operands])) (fun x hx => he x (by simp [ho, Op.operands, Call.operands, hx])) hu
  · rename_i args tys ho
    have hu := hH (by simp [ho, usesState]) (by simp [ho, isStore])
    rw [appRead_congr T wl L0 (fun x hx => he x (by simp [ho, Op.operands, Call.operands, hx])) hu (hL (by rw [ho]; rfl))]
  · rfl
  · rfl
  · rename_i hns _ _ _ _
    refine readOther_congr T L0 he fun hu => hH hu ?_
    cases ho : o.op <;> first | rfl | exact absurd ho (hns _ _ _)

theorem whatD_congr {s s' : St} {i : Nat} {o : Oper} (h : ∀ t ∈ o.looksAt ops, s.env t = s'.env t) (hH : usesNow ops o = true → isStore o.op = false → s.H = s'.H) (hL : isApp o.op = true → s.L = s'.L) : whatD T O wl ops L0 i o s = whatD T O wl ops L0 i o s' := by
  have he := eval_congr ops h
  unfold whatD
  rw [wantedP_congr ops h]
  split
  · split
    · unfold readS
      cases hl : lateOf ops o with
      | true =>
        simp only [cond_true]
        rw [pureOp_congr T he]
      | false =>
        simp only [cond_false]
        cases hn : newSt ops o with
        | true =>
          simp only [cond_true]
          unfold readOwn
          split
          · rename_i t x y ho
            have h1 := he x (by simp [ho, Op.operands])
            have h2 := he y (by simp [ho, Op.operands])
            rw [h1, h2]
          · rfl
        | false =>
          simp only [cond_false]
          cases sealOp ops o with
          | true =>
            simp only [cond_true]
            unfold readSeal
            split
            · rename_i f args tys ho
              exact callRead_congr O L0 (he f (by simp [ho, Op.operands, Call.operands])) (fun x hx => he x (by simp [ho, Op.operands, Call.operands, hx])) (hH (by unfold usesNow; rw [hl, ho]; rfl) (by rw [ho]; rfl))
            · rfl
          | false =>
            simp only [cond_false]
            exact readD_congr T O wl L0 he (fun hu hs => hH (by unfold usesNow; rw [hu, hl]; rfl) hs) hL
    · rfl
  · rfl

end
end Go.GL
