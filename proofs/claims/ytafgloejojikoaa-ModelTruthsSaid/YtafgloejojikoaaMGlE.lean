/-
  GL, part E: the interpreter's equations as the simplifier uses them: what goes on behind a step stands as data, not under a binder; tests come out.
-/
import Derived.Test.YtafgloejojikoaaMGlB
set_option linter.unusedSimpArgs false
set_option linter.unusedVariables false
/-! GL, part E: the interpreter's equations as the simplifier uses them: what goes on behind a step stands as data, not under a binder; tests come out. -/
namespace Go.GL
section
variable (T : Tab) (O : Orc) (wl : Nat)

def seqK (b : Code) : Option (Ex × St) → Option (Ex × St)
  | some (.normal, s) => run T O wl b s
  | r => r
def contK (ops : Array Oper) (os : List Oper) (dst : Option Nat) : Option (OpR × St) → Option (Ex × St)
  | some (.val v, s) => runOps T O wl ops os (s.put dst v)
  | some (.panic v, s) => some (.panic v, s)
  | none => none
def drawK (ops : Array Oper) (L0 : List Blk) (i : Nat) (os : List Oper) (dst : Option Nat) : Option (OpR × St) → Option (Ex × St)
  | some (.val v, s) => runDraw T O wl ops L0 (i + 1) os (s.put dst v)
  | some (.panic v, s) => if allWait ops i then some (.panic v, s) else none
  | none => none
def blockK (id : Nat) : Option (Ex × St) → Option (Ex × St)
  | some (.exit id', s) => if id' = id then some (.normal, s) else some (.exit id', s)
  | r => r
def loopK (c : Code) : Option (Ex × St) → Option (Ex × St)
  | some (.normal, s) => O.loop wl c s
  | r => r
def condK (a b : Code) (s : St) : PV → Option (Ex × St)
  | .bool t => if t then run T O wl a s else run T O wl b s
  | _ => none
def valK (s : St) : Option OpR → Option (OpR × St)
  | some r => some (r, s)
  | none => none
def retK (s : St) : Option (Out × Heap) → Option (OpR × St)
  | some (.ret v, L :: H) => some (.val v, { env := s.env, L := L, H := H })
  | some (.panic v, L :: H) => some (.panic v, { env := s.env, L := L, H := H })
  | _ => none
def retD (sl : Bool) (L0 : List Blk) (i : Nat) (s : St) (o : Option (Out × Heap)) : Option (OpR × St) := retDraw sl L0 i s o
def stK (s : St) : Option Heap → Option (OpR × St)
  | some (L :: H) => some (.val undefP, { env := s.env, L := L, H := H })
  | _ => none
def argK (g : FuncId) (s : St) (args : List PV) : Option (List PV) → Option (OpR × St)
  | some args' => retK s (O.call g wl args' (shutL s.depth args s.L :: s.H))
  | none => none
def argD (sl : Bool) (g : FuncId) (L0 : List Blk) (i : Nat) (s : St) : Option (List PV) → Option (OpR × St)
  | some args' => if thereL (L0 :: s.H) args' then retD sl L0 i s (O.call g (s.depth + 1) args' (L0 :: s.H)) else none
  | none => none
def bodyK (keep : FuncId → Bool) (f : FuncId) (rs : List ResultVar) : Option (Ex × St) → Option (Out × Heap)
  | some (.ret, s) | some (.normal, s) => match readR T s rs with
    | some vs => leave keep f s (tupled vs)
    | none => none
  | some (.panic v, s) => if isData v then some (.panic v, s.H) else none
  | _ => none
end

section
variable {T : Tab} {O : Orc} {wl : Nat}
@[simp] theorem run_skip (s : St) : run T O wl .skip s = some (.normal, s) := rfl
@[simp] theorem run_ret (s : St) : run T O wl .ret s = some (.ret, s) := rfl
@[simp] theorem run_exit (id : Nat) (s : St) : run T O wl (.exit id) s = some (.exit id, s) := rfl
@[simp] theorem run_seq (a b : Code) (s : St) : run T O wl (.seq a b) s = seqK T O wl b (run T O wl a s) := by
  simp only [run, seqK]; split <;> simp_all
@[simp] theorem run_block (id : Nat) (c : Code) (s : St) : run T O wl (.block id c) s = blockK id (run T O wl c s) := by
  simp only [run, blockK]; split <;> simp_all
theorem run_loop (c : Code) (s : St) : run T O wl (.loop c) s = loopK O wl c (run T O wl c s) := by
  simp only [run, loopK]; split <;> simp_all
@[simp] theorem run_cond (c : Operand) (a b : Code) (s : St) : run T O wl (.cond c a b) s = condK T O wl a b s (s.eval c) := by
  simp only [run, condK]; split <;> simp_all
@[simp] theorem run_region (id : Nat) (l : List Oper) (s : St) : run T O wl (.region id l.toArray false) s = runOps T O wl l.toArray l s := by
  simp [run]
@[simp] theorem run_draw (id : Nat) (l : List Oper) (s : St) : run T O wl (.region id l.toArray true) s =
    runDraw T O wl l.toArray s.L 0 l { env := s.env, L := s.L ++ List.replicate l.length .gone, H := s.H } := by
  simp [run]
@[simp] theorem runOps_nil (ops : Array Oper) (s : St) : runOps T O wl ops [] s = some (.normal, s) := rfl
@[simp] theorem runOps_cons (ops : Array Oper) (o : Oper) (os : List Oper) (s : St) :
    runOps T O wl ops (o :: os) s = contK T O wl ops os o.dst (stepOp T O wl ops o s) := by
  simp only [runOps, contK]; split <;> simp_all
@[simp] theorem runDraw_nil (ops : Array Oper) (L0 : List Blk) (i : Nat) (s : St) : runDraw T O wl ops L0 i [] s = some (.normal, s) := rfl
@[simp] theorem runDraw_cons (ops : Array Oper) (L0 : List Blk) (i : Nat) (o : Oper) (os : List Oper) (s : St) :
    runDraw T O wl ops L0 i (o :: os) s = drawK T O wl ops L0 i os o.dst (stepDraw T O wl ops L0 i o s) := by
  simp only [runDraw, drawK]; split <;> simp_all

@[simp] theorem seqK_normal (b : Code) (s : St) : seqK T O wl b (some (.normal, s)) = run T O wl b s := rfl
@[simp] theorem seqK_ret (b : Code) (s : St) : seqK T O wl b (some (.ret, s)) = some (.ret, s) := rfl
@[simp] theorem seqK_exit (b : Code) (id : Nat) (s : St) : seqK T O wl b (some (.exit id, s)) = some (.exit id, s) := rfl
@[simp] theorem seqK_panic (b : Code) (v : PV) (s : St) : seqK T O wl b (some (.panic v, s)) = some (.panic v, s) := rfl
@[simp] theorem seqK_none (b : Code) : seqK T O wl b none = none := rfl
@[simp] theorem seqK_ite (b : Code) (p : Prop) [Decidable p] (x y) : seqK T O wl b (if p then x else y) = if p then seqK T O wl b x else seqK T O wl b y := by split <;> rfl
@[simp] theorem contK_val (ops : Array Oper) (os : List Oper) (dst : Option Nat) (v : PV) (s : St) : contK T O wl ops os dst (some (.val v, s)) = runOps T O wl ops os (s.put dst v) := rfl
@[simp] theorem contK_panic (ops : Array Oper) (os : List Oper) (dst : Option Nat) (v : PV) (s : St) : contK T O wl ops os dst (some (.panic v, s)) = some (.panic v, s) := rfl
@[simp] theorem contK_none (ops : Array Oper) (os : List Oper) (dst : Option Nat) : contK T O wl ops os dst none = none := rfl
@[simp] theorem contK_ite (ops : Array Oper) (os : List Oper) (dst : Option Nat) (p : Prop) [Decidable p] (x y) :
    contK T O wl ops os dst (if p then x else y) = if p then contK T O wl ops os dst x else contK T O wl ops os dst y := by split <;> rfl
@[simp] theorem drawK_val (ops : Array Oper) (L0 i) (os : List Oper) (dst : Option Nat) (v : PV) (s : St) : drawK T O wl ops L0 i os dst (some (.val v, s)) = runDraw T O wl ops L0 (i + 1) os (s.put dst v) := rfl
@[simp] theorem drawK_panic (ops : Array Oper) (L0 i) (os : List Oper) (dst : Option Nat) (v : PV) (s : St) : drawK T O wl ops L0 i os dst (some (.panic v, s)) = if allWait ops i then some (.panic v, s) else none := rfl
@[simp] theorem drawK_none (ops : Array Oper) (L0 i) (os : List Oper) (dst : Option Nat) : drawK T O wl ops L0 i os dst none = none := rfl
@[simp] theorem drawK_ite (ops : Array Oper) (L0 i) (os : List Oper) (dst : Option Nat) (p : Prop) [Decidable p] (x y) :
    drawK T O wl ops L0 i os dst (if p then x else y) = if p then drawK T O wl ops L0 i os dst x else drawK T O wl ops L0 i os dst y := by split <;> rfl
@[simp] theorem blockK_normal (id : Nat) (s : St) : blockK id (some (.normal, s)) = some (.normal, s) := rfl
@[simp] theorem blockK_ret (id : Nat) (s : St) : blockK id (some (.ret, s)) = some (.ret, s) := rfl
@[simp] theorem blockK_exit (id id' : Nat) (s : St) : blockK id (some (.exit id', s)) = if id' = id then some (.normal, s) else some (.exit id', s) := rfl
@[simp] theorem blockK_panic (id : Nat) (v : PV) (s : St) : blockK id (some (.panic v, s)) = some (.panic v, s) := rfl
@[simp] theorem blockK_none (id : Nat) : blockK id none = none := rfl
@[simp] theorem blockK_ite (id : Nat) (p : Prop) [Decidable p] (x y) : blockK id (if p then x else y) = if p then blockK id x else blockK id y := by split <;> rfl
@[simp] theorem loopK_normal (c : Code) (s : St) : loopK O wl c (some (.normal, s)) = O.loop wl c s := rfl
@[simp] theorem loopK_ret (c : Code) (s : St) : loopK O wl c (some (.ret, s)) = some (.ret, s) := rfl
@[simp] theorem loopK_exit (c : Code) (id : Nat) (s : St) : loopK O wl c (some (.exit id, s)) = some (.exit id, s) := rfl
@[simp] theorem loopK_panic (c : Code) (v : PV) (s : St) : loopK O wl c (some (.panic v, s)) = some (.panic v, s) := rfl
@[simp] theorem loopK_none (c : Code) : loopK O wl c none = none := rfl
@[simp] theorem loopK_ite (c : Code) (p : Prop) [Decidable p] (x y) : loopK O wl c (if p then x else y) = if p then loopK O wl c x else loopK O wl c y := by split <;> rfl
@[simp] theorem condK_bool (a b : Code) (s : St) (t : Bool) : condK T O wl a b s (.bool t) = if t then run T O wl a s else run T O wl b s := rfl

@[simp] theorem stepOp_plain (ops : Array Oper) (dst : Option Nat) (op : Op) (ty : TypeId) (pos : String) (after : Array Edge) (s : St) :
    stepOp T O wl ops ⟨dst, op, ty, pos, after, none⟩ s = opRun T O wl ⟨dst, op, ty, pos, after, none⟩ s := rfl
@[simp] theorem stepDraw_plain (ops : Array Oper) (L0 i) (dst : Option Nat) (op : Op) (ty : TypeId) (pos : String) (after : Array Edge) (s : St) :
    stepDraw T O wl ops L0 i ⟨dst, op, ty, pos, after, none⟩ s = opSoft T O wl ops L0 i ⟨dst, op, ty, pos, after, none⟩ s := rfl
def wantK (ops : Array Oper) (o : Oper) (s : St) (w : Bool) : Option PV → Option (OpR × St)
  | some (.bool b) => if b = w then opRun T O wl o s else some (.val undefP, s)
  | some .junk => none
  | _ => some (.val undefP, s)
def wantD (ops : Array Oper) (L0 : List Blk) (i : Nat) (o : Oper) (s : St) (w : Bool) : Option PV → Option (OpR × St)
  | some (.bool b) => if b = w then opSoft T O wl ops L0 i o s else some (.val undefP, s)
  | some .junk => none
  | _ => some (.val undefP, s)
@[simp] theorem stepOp_guard (ops : Array Oper) (dst : Option Nat) (op : Op) (ty : TypeId) (pos : String) (after : Array Edge) (j : Nat) (w : Bool) (s : St) :
    stepOp T O wl ops ⟨dst, op, ty, pos, after, some (j, w)⟩ s = wantK (T := T) (O := O) (wl := wl) ops ⟨dst, op, ty, pos, after, some (j, w)⟩ s w (guardP ops s j) := by
  simp only [stepOp, wantedP, wantK]
  cases guardP ops s j with
  | none => rfl
  | some p => cases p with
    | bool b => cases b <;> cases w <;> rfl
    | _ => rfl
@[simp] theorem stepDraw_guard (ops : Array Oper) (L0 i) (dst : Option Nat) (op : Op) (ty : TypeId) (pos : String) (after : Array Edge) (j : Nat) (w : Bool) (s : St) :
    stepDraw T O wl ops L0 i ⟨dst, op, ty, pos, after, some (j, w)⟩ s = wantD (T := T) (O := O) (wl := wl) ops L0 i ⟨dst, op, ty, pos, after, some (j, w)⟩ s w (guardP ops s j) := by
  simp only [stepDraw, wantedP, wantD]
  cases guardP ops s j with
  | none => rfl
  | some p => cases p with
    | bool b => cases b <;> cases w <;> rfl
    | _ => rfl
@[simp] theorem wantK_bool (ops : Array Oper) (o : Oper) (s : St) (w b : Bool) : wantK (T := T) (O := O) (wl := wl) ops o s w (some (.bool b)) = if b = w then opRun T O wl o s else some (.val undefP, s) := rfl
@[simp] theorem wantK_undef (ops : Array Oper) (o : Oper) (s : St) (w : Bool) (l : List PV) : wantK (T := T) (O := O) (wl := wl) ops o s w (some (.tup l)) = some (.val undefP, s) := rfl
@[simp] theorem wantD_bool (ops : Array Oper) (L0 i) (o : Oper) (s : St) (w b : Bool) : wantD (T := T) (O := O) (wl := wl) ops L0 i o s w (some (.bool b)) = if b = w then opSoft T O wl ops L0 i o s else some (.val undefP, s) := rfl
@[simp] theorem wantD_undef (ops : Array Oper) (L0 i) (o : Oper) (s : St) (w : Bool) (l : List PV) : wantD (T := T) (O := O) (wl := wl) ops L0 i o s w (some (.tup l)) = some (.val undefP, s) := rfl

@[simp] theorem valK_some (s : St) (r : OpR) : valK s (some r) = some (r, s) := rfl
@[simp] theorem valK_none (s : St) : valK s none = none := rfl
@[simp] theorem valK_ite (s : St) (p : Prop) [Decidable p] (x y) : valK s (if p then x else y) = if p then valK s x else valK s y := by split <;> rfl
@[simp] theorem valK_dite (s : St) (p : Prop) [Decidable p] (x : p → Option OpR) (y : ¬ p → Option OpR) : valK s (if h : p then x h else y h) = if h : p then valK s (x h) else valK s (y h) := by split <;> rfl
@[simp] theorem retK_ret (s : St) (v L H) : retK s (some (.ret v, L :: H)) = some (.val v, { env := s.env, L := L, H := H }) := rfl
@[simp] theorem retK_panic (s : St) (v L H) : retK s (some (.panic v, L :: H)) = some (.panic v, { env := s.env, L := L, H := H }) := rfl
@[simp] theorem retK_none (s : St) : retK s none = none := rfl
@[simp] theorem retK_ite (s : St) (p : Prop) [Decidable p] (x y) : retK s (if p then x else y) = if p then retK s x else retK s y := by split <;> rfl
def keptK (sl : Bool) (L0 : List Blk) (i : Nat) (s : St) (v : PV) (S : Heap) : Option (OpR × St) := (keptR sl s.H.length L0.length (L0.length + i) v S).map fun q => (.val q.1, { s with L := s.L.set (L0.length + i) q.2 })
@[simp] theorem retD_ret (sl L0 i) (s : St) (v S) : retD sl L0 i s (some (.ret v, S)) = if isDataT v then some (.val v, s) else keptK sl L0 i s v S := rfl
@[simp] theorem retD_panic (sl L0 i) (s : St) (v S) : retD sl L0 i s (some (.panic v, S)) = if isData v then some (.panic v, s) else none := rfl
@[simp] theorem retD_none (sl L0 i) (s : St) : retD sl L0 i s none = none := rfl
@[simp] theorem retD_ite (sl L0 i) (s : St) (p : Prop) [Decidable p] (x y) : retD sl L0 i s (if p then x else y) = if p then retD sl L0 i s x else retD sl L0 i s y := by split <;> rfl
theorem keptK_own (L0 i) (s : St) (k n sz : Nat) (L : List Blk) (H : Heap) (xs : List PV) (h : L[L0.length]? = some (.arr true sz xs)) (hn : xs.length = n) :
    keptK false L0 i s (.own s.H.length L0.length n sz) (L :: H) = some (.val (.own s.H.length (L0.length + i) n sz), { s with L := s.L.set (L0.length + i) (.arr true sz xs) }) := by
  simp [keptK, keptR, h, hn]
@[simp] theorem stK_some (s : St) (L H) : stK s (some (L :: H)) = some (.val undefP, { env := s.env, L := L, H := H }) := rfl
@[simp] theorem stK_none (s : St) : stK s none = none := rfl
@[simp] theorem argK_some (g : FuncId) (s : St) (args args' : List PV) : argK O wl g s args (some args') = retK s (O.call g wl args' (shutL s.H.length args s.L :: s.H)) := rfl
@[simp] theorem argD_some (sl) (g : FuncId) (L0 i) (s : St) (args' : List PV) : argD O sl g L0 i s (some args') = if thereL (L0 :: s.H) args' then retD sl L0 i s (O.call g (s.H.length + 1) args' (L0 :: s.H)) else none := rfl

@[simp] theorem opRun_store (dst ty pos after gd) (t : TypeId) (a x : Operand) (s : St) : opRun T O wl ⟨dst, .store t a x, ty, pos, after, gd⟩ s = stK s (storeS T wl t (s.eval a) (s.eval x) (s.L :: s.H)) := by
  simp only [opRun, storeOp, St.stack, stK]
  cases storeS T wl t (s.eval a) (s.eval x) (s.L :: s.H) with
  | none => rfl
  | some S => cases S <;> rfl
@[simp] theorem opDraw_store (L0 i dst ty pos after gd) (t : TypeId) (a x : Operand) (s : St) : opDraw T O wl L0 i ⟨dst, .store t a x, ty, pos, after, gd⟩ s = stK s (storeS T wl t (s.eval a) (s.eval x) (s.L :: s.H)) := by
  simp only [opDraw, storeOp, St.stack, stK]
  cases storeS T wl t (s.eval a) (s.eval x) (s.L :: s.H) with
  | none => rfl
  | some S => cases S <;> rfl
def tgtK (s : St) : Option (FuncId × List PV) → Option (OpR × St)
  | some (g, args) => argK O wl g s args (frzL (s.L :: s.H) s.H.length false args)
  | none => none
def tgtD (sl : Bool) (L0 : List Blk) (i : Nat) (s : St) : Option (FuncId × List PV) → Option (OpR × St)
  | some (g, args) => argD O sl g L0 i s (frzL (L0 :: s.H) s.H.length true args)
  | none => none
@[simp] theorem tgtK_some (s : St) (g args) : tgtK (O := O) (wl := wl) s (some (g, args)) = argK O wl g s args (frzL (s.L :: s.H) s.H.length false args) := rfl
@[simp] theorem tgtD_some (sl L0 i) (s : St) (g args) : tgtD (O := O) sl L0 i s (some (g, args)) = argD O sl g L0 i s (frzL (L0 :: s.H) s.H.length true args) := rfl
@[simp] theorem targetOf_func (g : FuncId) (fs cs args : List PV) : targetOf (.func (.func g) fs cs) args = some (g, fs ++ args ++ cs) := rfl
@[simp] theorem opRun_call (dst ty pos after gd) (f : Operand) (args : List Operand) (tys) (s : St) : opRun T O wl ⟨dst, .call ⟨.value f, args.toArray, tys⟩, ty, pos, after, gd⟩ s = tgtK (O := O) (wl := wl) s (targetOf (s.eval f) (args.map s.eval)) := by
  simp only [opRun, callOp, tgtK]
  split <;> simp_all only []
  simp only [argK, St.stack, St.depth]
  split <;> simp_all only []
  rename_i g args _ _ args' _
  cases O.call g wl args' (shutL s.H.length args s.L :: s.H) with
  | none => rfl
  | some r => obtain ⟨o, S⟩ := r; cases o <;> cases S <;> rfl
@[simp] theorem opDraw_call (L0 i dst ty pos after gd) (f : Operand) (args : List Operand) (tys) (s : St) : opDraw T O wl L0 i ⟨dst, .call ⟨.value f, args.toArray, tys⟩, ty, pos, after, gd⟩ s = tgtD (O := O) false L0 i s (targetOf (s.eval f) (args.map s.eval)) := by
  simp only [opDraw, callDraw, tgtD]
  split <;> simp_all only []
  simp only [argD, St.depth, retD]
  split <;> simp_all only []
@[simp] theorem sealDraw_call (L0 i dst ty pos after gd) (f : Operand) (args : List Operand) (tys) (s : St) : sealDraw O L0 i ⟨dst, .call ⟨.value f, args.toArray, tys⟩, ty, pos, after, gd⟩ s = tgtD (O := O) true L0 i s (targetOf (s.eval f) (args.map s.eval)) := by
  simp only [sealDraw, callDraw, tgtD]
  split <;> simp_all only []
  simp only [argD, St.depth, retD]
  split <;> simp_all only []

def isMapW : Op → Bool
  | .insert .. | .mapUpdate .. => true
  | _ => false
theorem opRun_other (o : Oper) (s : St) (h : isMake o.op = false) (hm : isMapW o.op = false) (h0 : ∀ t j l h m, o.op ≠ .slice t (.tmp j) l h m) (h1 : ∀ t a x, o.op ≠ .store t a x) (h2 : ∀ f args tys, o.op ≠ .call ⟨.value f, args, tys⟩) (h3 : ∀ args tys, o.op ≠ .call ⟨.builtin .append, args, tys⟩) :
    opRun T O wl o s = valK s (pureOp T o s (s.L :: s.H)) := by
  unfold opRun
  split
  · exact absurd ‹_› (h0 _ _ _ _ _)
  · exact absurd ‹_› (h1 _ _ _)
  · exact absurd ‹_› (h2 _ _ _)
  · exact absurd ‹_› (h3 _ _)
  · rename_i hh; rw [hh] at hm; cases hm
  · rename_i hh; rw [hh] at hm; cases hm
  · simp only [h, valK, Bool.false_eq_true, if_false, St.stack]
    cases pureOp T o s (s.L :: s.H) <;> rfl
theorem opDraw_other (L0 i) (o : Oper) (s : St) (h : isMake o.op = false) (hm : isMapW o.op = false) (h1 : ∀ t a x, o.op ≠ .store t a x) (h2 : ∀ f args tys, o.op ≠ .call ⟨.value f, args, tys⟩) (h3 : ∀ args tys, o.op ≠ .call ⟨.builtin .append, args, tys⟩) :
    opDraw T O wl L0 i o s = valK s (pureOp T o s (L0 :: s.H)) := by
  unfold opDraw
  split
  · exact absurd ‹_› (h1 _ _ _)
  · exact absurd ‹_› (h2 _ _ _)
  · exact absurd ‹_› (h3 _ _)
  · rename_i hh; rw [hh] at hm; cases hm
  · rename_i hh; rw [hh] at hm; cases hm
  · simp only [h, valK, Bool.false_eq_true, if_false]
    cases pureOp T o s (L0 :: s.H) <;> rfl
end
section
variable {T : Tab} {O : Orc} {wl : Nat} {dst : Option Nat} {ty : TypeId} {pos : String} {after : Array Edge} {gd : Option (Nat × Bool)}
@[simp] theorem opRun_move (x : Operand) (s : St) : opRun T O wl ⟨dst, .move x, ty, pos, after, gd⟩ s = valK s (pureOp T ⟨dst, .move x, ty, pos, after, gd⟩ s (s.L :: s.H)) := opRun_other _ _ rfl rfl (fun _ _ _ _ _ h => nomatch h) (fun _ _ _ h => nomatch h) (fun _ _ _ h => nomatch h) (fun _ _ h => nomatch h)
@[simp] theorem opDraw_move (L0 : List Blk) (z : Nat) (x : Operand) (s : St) : opDraw T O wl L0 z ⟨dst, .move x, ty, pos, after, gd⟩ s = valK s (pureOp T ⟨dst, .move x, ty, pos, after, gd⟩ s (L0 :: s.H)) := opDraw_other _ _ _ _ rfl rfl (fun _ _ _ h => nomatch h) (fun _ _ _ h => nomatch h) (fun _ _ h => nomatch h)
@[simp] theorem opRun_assign (x : Operand) (s : St) : opRun T O wl ⟨dst, .assign x, ty, pos, after, gd⟩ s = valK s (pureOp T ⟨dst, .assign x, ty, pos, after, gd⟩ s (s.L :: s.H)) := opRun_other _ _ rfl rfl (fun _ _ _ _ _ h => nomatch h) (fun _ _ _ h => nomatch h) (fun _ _ _ h => nomatch h) (fun _ _ h => nomatch h)
@[simp] theorem opDraw_assign (L0 : List Blk) (z : Nat) (x : Operand) (s : St) : opDraw T O wl L0 z ⟨dst, .assign x, ty, pos, after, gd⟩ s = valK s (pureOp T ⟨dst, .assign x, ty, pos, after, gd⟩ s (L0 :: s.H)) := opDraw_other _ _ _ _ rfl rfl (fun _ _ _ h => nomatch h) (fun _ _ _ h => nomatch h) (fun _ _ h => nomatch h)
@[simp] theorem opRun_pick (c a b : Operand) (s : St) : opRun T O wl ⟨dst, .pick c a b, ty, pos, after, gd⟩ s = valK s (pureOp T ⟨dst, .pick c a b, ty, pos, after, gd⟩ s (s.L :: s.H)) := opRun_other _ _ rfl rfl (fun _ _ _ _ _ h => nomatch h) (fun _ _ _ h => nomatch h) (fun _ _ _ h => nomatch h) (fun _ _ h => nomatch h)
@[simp] theorem opDraw_pick (L0 : List Blk) (z : Nat) (c a b : Operand) (s : St) : opDraw T O wl L0 z ⟨dst, .pick c a b, ty, pos, after, gd⟩ s = valK s (pureOp T ⟨dst, .pick c a b, ty, pos, after, gd⟩ s (L0 :: s.H)) := opDraw_other _ _ _ _ rfl rfl (fun _ _ _ h => nomatch h) (fun _ _ _ h => nomatch h) (fun _ _ h => nomatch h)
@[simp] theorem opRun_build (t : TypeId) (parts : Array (Nat × Operand)) (s : St) : opRun T O wl ⟨dst, .build t parts, ty, pos, after, gd⟩ s = valK s (pureOp T ⟨dst, .build t parts, ty, pos, after, gd⟩ s (s.L :: s.H)) := opRun_other _ _ rfl rfl (fun _ _ _ _ _ h => nomatch h) (fun _ _ _ h => nomatch h) (fun _ _ _ h => nomatch h) (fun _ _ h => nomatch h)
@[simp] theorem opDraw_build (L0 : List Blk) (z : Nat) (t : TypeId) (parts : Array (Nat × Operand)) (s : St) : opDraw T O wl L0 z ⟨dst, .build t parts, ty, pos, after, gd⟩ s = valK s (pureOp T ⟨dst, .build t parts, ty, pos, after, gd⟩ s (L0 :: s.H)) := opDraw_other _ _ _ _ rfl rfl (fun _ _ _ h => nomatch h) (fun _ _ _ h => nomatch h) (fun _ _ h => nomatch h)
@[simp] theorem opRun_load (t : TypeId) (a : Operand) (s : St) : opRun T O wl ⟨dst, .load t a, ty, pos, after, gd⟩ s = valK s (pureOp T ⟨dst, .load t a, ty, pos, after, gd⟩ s (s.L :: s.H)) := opRun_other _ _ rfl rfl (fun _ _ _ _ _ h => nomatch h) (fun _ _ _ h => nomatch h) (fun _ _ _ h => nomatch h) (fun _ _ h => nomatch h)
@[simp] theorem opDraw_load (L0 : List Blk) (z : Nat) (t : TypeId) (a : Operand) (s : St) : opDraw T O wl L0 z ⟨dst, .load t a, ty, pos, after, gd⟩ s = valK s (pureOp T ⟨dst, .load t a, ty, pos, after, gd⟩ s (L0 :: s.H)) := opDraw_other _ _ _ _ rfl rfl (fun _ _ _ h => nomatch h) (fun _ _ _ h => nomatch h) (fun _ _ h => nomatch h)
@[simp] theorem opRun_nilCheck (x : Operand) (s : St) : opRun T O wl ⟨dst, .nilCheck x, ty, pos, after, gd⟩ s = valK s (pureOp T ⟨dst, .nilCheck x, ty, pos, after, gd⟩ s (s.L :: s.H)) := opRun_other _ _ rfl rfl (fun _ _ _ _ _ h => nomatch h) (fun _ _ _ h => nomatch h) (fun _ _ _ h => nomatch h) (fun _ _ h => nomatch h)
@[simp] theorem opDraw_nilCheck (L0 : List Blk) (z : Nat) (x : Operand) (s : St) : opDraw T O wl L0 z ⟨dst, .nilCheck x, ty, pos, after, gd⟩ s = valK s (pureOp T ⟨dst, .nilCheck x, ty, pos, after, gd⟩ s (L0 :: s.H)) := opDraw_other _ _ _ _ rfl rfl (fun _ _ _ h => nomatch h) (fun _ _ _ h => nomatch h) (fun _ _ h => nomatch h)
@[simp] theorem opRun_binOp (b : BinOp) (t : TypeId) (x y : Operand) (u : TypeId) (s : St) : opRun T O wl ⟨dst, .binOp b t x y u, ty, pos, after, gd⟩ s = valK s (pureOp T ⟨dst, .binOp b t x y u, ty, pos, after, gd⟩ s (s.L :: s.H)) := opRun_other _ _ rfl rfl (fun _ _ _ _ _ h => nomatch h) (fun _ _ _ h => nomatch h) (fun _ _ _ h => nomatch h) (fun _ _ h => nomatch h)
@[simp] theorem opDraw_binOp (L0 : List Blk) (z : Nat) (b : BinOp) (t : TypeId) (x y : Operand) (u : TypeId) (s : St) : opDraw T O wl L0 z ⟨dst, .binOp b t x y u, ty, pos, after, gd⟩ s = valK s (pureOp T ⟨dst, .binOp b t x y u, ty, pos, after, gd⟩ s (L0 :: s.H)) := opDraw_other _ _ _ _ rfl rfl (fun _ _ _ h => nomatch h) (fun _ _ _ h => nomatch h) (fun _ _ h => nomatch h)
@[simp] theorem opRun_unOp (b : UnOp) (t : TypeId) (x : Operand) (s : St) : opRun T O wl ⟨dst, .unOp b t x, ty, pos, after, gd⟩ s = valK s (pureOp T ⟨dst, .unOp b t x, ty, pos, after, gd⟩ s (s.L :: s.H)) := opRun_other _ _ rfl rfl (fun _ _ _ _ _ h => nomatch h) (fun _ _ _ h => nomatch h) (fun _ _ _ h => nomatch h) (fun _ _ h => nomatch h)
@[simp] theorem opDraw_unOp (L0 : List Blk) (z : Nat) (b : UnOp) (t : TypeId) (x : Operand) (s : St) : opDraw T O wl L0 z ⟨dst, .unOp b t x, ty, pos, after, gd⟩ s = valK s (pureOp T ⟨dst, .unOp b t x, ty, pos, after, gd⟩ s (L0 :: s.H)) := opDraw_other _ _ _ _ rfl rfl (fun _ _ _ h => nomatch h) (fun _ _ _ h => nomatch h) (fun _ _ h => nomatch h)
@[simp] theorem opRun_convert (t u : TypeId) (x : Operand) (s : St) : opRun T O wl ⟨dst, .convert t u x, ty, pos, after, gd⟩ s = valK s (pureOp T ⟨dst, .convert t u x, ty, pos, after, gd⟩ s (s.L :: s.H)) := opRun_other _ _ rfl rfl (fun _ _ _ _ _ h => nomatch h) (fun _ _ _ h => nomatch h) (fun _ _ _ h => nomatch h) (fun _ _ h => nomatch h)
@[simp] theorem opDraw_convert (L0 : List Blk) (z : Nat) (t u : TypeId) (x : Operand) (s : St) : opDraw T O wl L0 z ⟨dst, .convert t u x, ty, pos, after, gd⟩ s = valK s (pureOp T ⟨dst, .convert t u x, ty, pos, after, gd⟩ s (L0 :: s.H)) := opDraw_other _ _ _ _ rfl rfl (fun _ _ _ h => nomatch h) (fun _ _ _ h => nomatch h) (fun _ _ h => nomatch h)
@[simp] theorem opRun_makeInterface (t : TypeId) (x : Operand) (s : St) : opRun T O wl ⟨dst, .makeInterface t x, ty, pos, after, gd⟩ s = valK s (pureOp T ⟨dst, .makeInterface t x, ty, pos, after, gd⟩ s (s.L :: s.H)) := opRun_other _ _ rfl rfl (fun _ _ _ _ _ h => nomatch h) (fun _ _ _ h => nomatch h) (fun _ _ _ h => nomatch h) (fun _ _ h => nomatch h)
@[simp] theorem opDraw_makeInterface (L0 : List Blk) (z : Nat) (t : TypeId) (x : Operand) (s : St) : opDraw T O wl L0 z ⟨dst, .makeInterface t x, ty, pos, after, gd⟩ s = valK s (pureOp T ⟨dst, .makeInterface t x, ty, pos, after, gd⟩ s (L0 :: s.H)) := opDraw_other _ _ _ _ rfl rfl (fun _ _ _ h => nomatch h) (fun _ _ _ h => nomatch h) (fun _ _ h => nomatch h)
@[simp] theorem opRun_makeFunc (f : Fn) (a b : Array Operand) (s : St) : opRun T O wl ⟨dst, .makeFunc f a b, ty, pos, after, gd⟩ s = valK s (pureOp T ⟨dst, .makeFunc f a b, ty, pos, after, gd⟩ s (s.L :: s.H)) := opRun_other _ _ rfl rfl (fun _ _ _ _ _ h => nomatch h) (fun _ _ _ h => nomatch h) (fun _ _ _ h => nomatch h) (fun _ _ h => nomatch h)
@[simp] theorem opDraw_makeFunc (L0 : List Blk) (z : Nat) (f : Fn) (a b : Array Operand) (s : St) : opDraw T O wl L0 z ⟨dst, .makeFunc f a b, ty, pos, after, gd⟩ s = valK s (pureOp T ⟨dst, .makeFunc f a b, ty, pos, after, gd⟩ s (L0 :: s.H)) := opDraw_other _ _ _ _ rfl rfl (fun _ _ _ h => nomatch h) (fun _ _ _ h => nomatch h) (fun _ _ h => nomatch h)
@[simp] theorem opRun_fieldAddr (t : TypeId) (x : Operand) (f : Nat) (s : St) : opRun T O wl ⟨dst, .fieldAddr t x f, ty, pos, after, gd⟩ s = valK s (pureOp T ⟨dst, .fieldAddr t x f, ty, pos, after, gd⟩ s (s.L :: s.H)) := opRun_other _ _ rfl rfl (fun _ _ _ _ _ h => nomatch h) (fun _ _ _ h => nomatch h) (fun _ _ _ h => nomatch h) (fun _ _ h => nomatch h)
@[simp] theorem opDraw_fieldAddr (L0 : List Blk) (z : Nat) (t : TypeId) (x : Operand) (f : Nat) (s : St) : opDraw T O wl L0 z ⟨dst, .fieldAddr t x f, ty, pos, after, gd⟩ s = valK s (pureOp T ⟨dst, .fieldAddr t x f, ty, pos, after, gd⟩ s (L0 :: s.H)) := opDraw_other _ _ _ _ rfl rfl (fun _ _ _ h => nomatch h) (fun _ _ _ h => nomatch h) (fun _ _ h => nomatch h)
@[simp] theorem opRun_field (t : TypeId) (x : Operand) (f : Nat) (s : St) : opRun T O wl ⟨dst, .field t x f, ty, pos, after, gd⟩ s = valK s (pureOp T ⟨dst, .field t x f, ty, pos, after, gd⟩ s (s.L :: s.H)) := opRun_other _ _ rfl rfl (fun _ _ _ _ _ h => nomatch h) (fun _ _ _ h => nomatch h) (fun _ _ _ h => nomatch h) (fun _ _ h => nomatch h)
@[simp] theorem opDraw_field (L0 : List Blk) (z : Nat) (t : TypeId) (x : Operand) (f : Nat) (s : St) : opDraw T O wl L0 z ⟨dst, .field t x f, ty, pos, after, gd⟩ s = valK s (pureOp T ⟨dst, .field t x f, ty, pos, after, gd⟩ s (L0 :: s.H)) := opDraw_other _ _ _ _ rfl rfl (fun _ _ _ h => nomatch h) (fun _ _ _ h => nomatch h) (fun _ _ h => nomatch h)
@[simp] theorem opRun_indexAddr (t : TypeId) (x i : Operand) (s : St) : opRun T O wl ⟨dst, .indexAddr t x i, ty, pos, after, gd⟩ s = valK s (pureOp T ⟨dst, .indexAddr t x i, ty, pos, after, gd⟩ s (s.L :: s.H)) := opRun_other _ _ rfl rfl (fun _ _ _ _ _ h => nomatch h) (fun _ _ _ h => nomatch h) (fun _ _ _ h => nomatch h) (fun _ _ h => nomatch h)
@[simp] theorem opDraw_indexAddr (L0 : List Blk) (z : Nat) (t : TypeId) (x i : Operand) (s : St) : opDraw T O wl L0 z ⟨dst, .indexAddr t x i, ty, pos, after, gd⟩ s = valK s (pureOp T ⟨dst, .indexAddr t x i, ty, pos, after, gd⟩ s (L0 :: s.H)) := opDraw_other _ _ _ _ rfl rfl (fun _ _ _ h => nomatch h) (fun _ _ _ h => nomatch h) (fun _ _ h => nomatch h)
@[simp] theorem opRun_index (t : TypeId) (x i : Operand) (s : St) : opRun T O wl ⟨dst, .index t x i, ty, pos, after, gd⟩ s = valK s (pureOp T ⟨dst, .index t x i, ty, pos, after, gd⟩ s (s.L :: s.H)) := opRun_other _ _ rfl rfl (fun _ _ _ _ _ h => nomatch h) (fun _ _ _ h => nomatch h) (fun _ _ _ h => nomatch h) (fun _ _ h => nomatch h)
@[simp] theorem opDraw_index (L0 : List Blk) (z : Nat) (t : TypeId) (x i : Operand) (s : St) : opDraw T O wl L0 z ⟨dst, .index t x i, ty, pos, after, gd⟩ s = valK s (pureOp T ⟨dst, .index t x i, ty, pos, after, gd⟩ s (L0 :: s.H)) := opDraw_other _ _ _ _ rfl rfl (fun _ _ _ h => nomatch h) (fun _ _ _ h => nomatch h) (fun _ _ h => nomatch h)
def cutK (T : Tab) (o : Oper) (j : Nat) (s : St) : Option PV → Option (OpR × St)
  | some v => valK { s with L := shutL s.H.length [s.env j] s.L } (pureOp T o ⟨upd s.env j v, shutL s.H.length [s.env j] s.L, s.H⟩ (shutL s.H.length [s.env j] s.L :: s.H))
  | none => none
@[simp] theorem cutK_some (o : Oper) (j : Nat) (s : St) (v : PV) : cutK T o j s (some v) = valK { s with L := shutL s.H.length [s.env j] s.L } (pureOp T o ⟨upd s.env j v, shutL s.H.length [s.env j] s.L, s.H⟩ (shutL s.H.length [s.env j] s.L :: s.H)) := rfl
@[simp] theorem opRun_slice (t : TypeId) (j : Nat) (l h m : Option Operand) (s : St) : opRun T O wl ⟨dst, .slice t (.tmp j) l h m, ty, pos, after, gd⟩ s = cutK T ⟨dst, .slice t (.tmp j) l h m, ty, pos, after, gd⟩ j s (frz (s.L :: s.H) s.H.length false (s.env j)) := by
  simp only [opRun, cutOp, St.stack, St.depth]
  cases frz (s.L :: s.H) s.H.length false (s.env j) with
  | none => rfl
  | some v =>
    simp only [cutK_some, valK]
    cases pureOp T _ _ _ <;> rfl
@[simp] theorem opDraw_slice (L0 : List Blk) (z : Nat) (t : TypeId) (x : Operand) (l h m : Option Operand) (s : St) : opDraw T O wl L0 z ⟨dst, .slice t x l h m, ty, pos, after, gd⟩ s = valK s (pureOp T ⟨dst, .slice t x l h m, ty, pos, after, gd⟩ s (L0 :: s.H)) := opDraw_other _ _ _ _ rfl rfl (fun _ _ _ h => nomatch h) (fun _ _ _ h => nomatch h) (fun _ _ h => nomatch h)
@[simp] theorem opRun_lookup (t : TypeId) (x y : Operand) (b : Bool) (s : St) : opRun T O wl ⟨dst, .lookup t x y b, ty, pos, after, gd⟩ s = valK s (pureOp T ⟨dst, .lookup t x y b, ty, pos, after, gd⟩ s (s.L :: s.H)) := opRun_other _ _ rfl rfl (fun _ _ _ _ _ h => nomatch h) (fun _ _ _ h => nomatch h) (fun _ _ _ h => nomatch h) (fun _ _ h => nomatch h)
@[simp] theorem opDraw_lookup (L0 : List Blk) (z : Nat) (t : TypeId) (x y : Operand) (b : Bool) (s : St) : opDraw T O wl L0 z ⟨dst, .lookup t x y b, ty, pos, after, gd⟩ s = valK s (pureOp T ⟨dst, .lookup t x y b, ty, pos, after, gd⟩ s (L0 :: s.H)) := opDraw_other _ _ _ _ rfl rfl (fun _ _ _ h => nomatch h) (fun _ _ _ h => nomatch h) (fun _ _ h => nomatch h)
@[simp] theorem opRun_extract (x : Operand) (j : Nat) (s : St) : opRun T O wl ⟨dst, .extract x j, ty, pos, after, gd⟩ s = valK s (pureOp T ⟨dst, .extract x j, ty, pos, after, gd⟩ s (s.L :: s.H)) := opRun_other _ _ rfl rfl (fun _ _ _ _ _ h => nomatch h) (fun _ _ _ h => nomatch h) (fun _ _ _ h => nomatch h) (fun _ _ h => nomatch h)
@[simp] theorem opDraw_extract (L0 : List Blk) (z : Nat) (x : Operand) (j : Nat) (s : St) : opDraw T O wl L0 z ⟨dst, .extract x j, ty, pos, after, gd⟩ s = valK s (pureOp T ⟨dst, .extract x j, ty, pos, after, gd⟩ s (L0 :: s.H)) := opDraw_other _ _ _ _ rfl rfl (fun _ _ _ h => nomatch h) (fun _ _ _ h => nomatch h) (fun _ _ h => nomatch h)
@[simp] theorem opRun_typeAssert (x : Operand) (t u : TypeId) (b : Bool) (s : St) : opRun T O wl ⟨dst, .typeAssert x t u b, ty, pos, after, gd⟩ s = valK s (pureOp T ⟨dst, .typeAssert x t u b, ty, pos, after, gd⟩ s (s.L :: s.H)) := opRun_other _ _ rfl rfl (fun _ _ _ _ _ h => nomatch h) (fun _ _ _ h => nomatch h) (fun _ _ _ h => nomatch h) (fun _ _ h => nomatch h)
@[simp] theorem opDraw_typeAssert (L0 : List Blk) (z : Nat) (x : Operand) (t u : TypeId) (b : Bool) (s : St) : opDraw T O wl L0 z ⟨dst, .typeAssert x t u b, ty, pos, after, gd⟩ s = valK s (pureOp T ⟨dst, .typeAssert x t u b, ty, pos, after, gd⟩ s (L0 :: s.H)) := opDraw_other _ _ _ _ rfl rfl (fun _ _ _ h => nomatch h) (fun _ _ _ h => nomatch h) (fun _ _ h => nomatch h)
@[simp] theorem opRun_panic (x : Operand) (s : St) : opRun T O wl ⟨dst, .panic x, ty, pos, after, gd⟩ s = valK s (pureOp T ⟨dst, .panic x, ty, pos, after, gd⟩ s (s.L :: s.H)) := opRun_other _ _ rfl rfl (fun _ _ _ _ _ h => nomatch h) (fun _ _ _ h => nomatch h) (fun _ _ _ h => nomatch h) (fun _ _ h => nomatch h)
@[simp] theorem opDraw_panic (L0 : List Blk) (z : Nat) (x : Operand) (s : St) : opDraw T O wl L0 z ⟨dst, .panic x, ty, pos, after, gd⟩ s = valK s (pureOp T ⟨dst, .panic x, ty, pos, after, gd⟩ s (L0 :: s.H)) := opDraw_other _ _ _ _ rfl rfl (fun _ _ _ h => nomatch h) (fun _ _ _ h => nomatch h) (fun _ _ h => nomatch h)
@[simp] theorem opRun_lenB (args : Array Operand) (tys : Array TypeId) (s : St) : opRun T O wl ⟨dst, .call ⟨.builtin .len, args, tys⟩, ty, pos, after, gd⟩ s = valK s (pureOp T ⟨dst, .call ⟨.builtin .len, args, tys⟩, ty, pos, after, gd⟩ s (s.L :: s.H)) := opRun_other _ _ rfl rfl (fun _ _ _ _ _ h => nomatch h) (fun _ _ _ h => nomatch h) (fun _ _ _ h => nomatch h) (fun _ _ h => nomatch h)
@[simp] theorem opDraw_lenB (L0 : List Blk) (z : Nat) (args : Array Operand) (tys : Array TypeId) (s : St) : opDraw T O wl L0 z ⟨dst, .call ⟨.builtin .len, args, tys⟩, ty, pos, after, gd⟩ s = valK s (pureOp T ⟨dst, .call ⟨.builtin .len, args, tys⟩, ty, pos, after, gd⟩ s (L0 :: s.H)) := opDraw_other _ _ _ _ rfl rfl (fun _ _ _ h => nomatch h) (fun _ _ _ h => nomatch h) (fun _ _ h => nomatch h)
@[simp] theorem opRun_minB (args : Array Operand) (tys : Array TypeId) (s : St) : opRun T O wl ⟨dst, .call ⟨.builtin .min, args, tys⟩, ty, pos, after, gd⟩ s = valK s (pureOp T ⟨dst, .call ⟨.builtin .min, args, tys⟩, ty, pos, after, gd⟩ s (s.L :: s.H)) := opRun_other _ _ rfl rfl (fun _ _ _ _ _ h => nomatch h) (fun _ _ _ h => nomatch h) (fun _ _ _ h => nomatch h) (fun _ _ h => nomatch h)
@[simp] theorem opDraw_minB (L0 : List Blk) (z : Nat) (args : Array Operand) (tys : Array TypeId) (s : St) : opDraw T O wl L0 z ⟨dst, .call ⟨.builtin .min, args, tys⟩, ty, pos, after, gd⟩ s = valK s (pureOp T ⟨dst, .call ⟨.builtin .min, args, tys⟩, ty, pos, after, gd⟩ s (L0 :: s.H)) := opDraw_other _ _ _ _ rfl rfl (fun _ _ _ h => nomatch h) (fun _ _ _ h => nomatch h) (fun _ _ h => nomatch h)
@[simp] theorem opRun_maxB (args : Array Operand) (tys : Array TypeId) (s : St) : opRun T O wl ⟨dst, .call ⟨.builtin .max, args, tys⟩, ty, pos, after, gd⟩ s = valK s (pureOp T ⟨dst, .call ⟨.builtin .max, args, tys⟩, ty, pos, after, gd⟩ s (s.L :: s.H)) := opRun_other _ _ rfl rfl (fun _ _ _ _ _ h => nomatch h) (fun _ _ _ h => nomatch h) (fun _ _ _ h => nomatch h) (fun _ _ h => nomatch h)
@[simp] theorem opDraw_maxB (L0 : List Blk) (z : Nat) (args : Array Operand) (tys : Array TypeId) (s : St) : opDraw T O wl L0 z ⟨dst, .call ⟨.builtin .max, args, tys⟩, ty, pos, after, gd⟩ s = valK s (pureOp T ⟨dst, .call ⟨.builtin .max, args, tys⟩, ty, pos, after, gd⟩ s (L0 :: s.H)) := opDraw_other _ _ _ _ rfl rfl (fun _ _ _ h => nomatch h) (fun _ _ _ h => nomatch h) (fun _ _ h => nomatch h)
def ownK (T : Tab) (wl : Nat) (L0 : List Blk) (t : Nat) (x : PV) (s : St) : PV → Option (OpR × St)
  | .ptr d k off => if d = s.H.length ∧ L0.length ≤ k then stK s (storeS T wl t (.ptr d k off) x (s.L :: s.H)) else none
  | _ => none
@[simp] theorem ownK_ptr (L0 : List Blk) (t : Nat) (x : PV) (s : St) (d k off : Nat) : ownK T wl L0 t x s (.ptr d k off) = if d = s.H.length ∧ L0.length ≤ k then stK s (storeS T wl t (.ptr d k off) x (s.L :: s.H)) else none := rfl
@[simp] theorem ownOp_store (L0 : List Blk) (t : Nat) (a x : Operand) (s : St) : ownOp T wl L0 ⟨dst, .store t a x, ty, pos, after, gd⟩ s = ownK T wl L0 t (s.eval x) s (s.eval a) := by
  simp only [ownOp]
  cases s.eval a with
  | ptr d k off =>
    simp only [ownStore, ownK_ptr]
    split
    · simp only [St.stack, stK]
      cases storeS T wl t (.ptr d k off) (s.eval x) (s.L :: s.H) with
      | none => rfl
      | some S => cases S <;> rfl
    · rfl
  | _ => rfl
@[simp] theorem opSoft_eq (ops : Array Oper) (L0 : List Blk) (z : Nat) (o : Oper) (s : St) : opSoft T O wl ops L0 z o s = bif lateOf ops o then valK s (pureOp T o s []) else bif newSt ops o then ownOp T wl L0 o s else bif sealOp ops o then sealDraw O L0 z o s else opDraw T O wl L0 z o s := by
  unfold opSoft valK
  cases lateOf ops o with
  | true => cases pureOp T o s [] <;> rfl
  | false => rfl
def mkK (s : St) (L : List Blk) : Option (PV × Blk) → Option (OpR × St)
  | some (v, b) => some (.val v, { env := s.env, L := L ++ [b], H := s.H })
  | none => none
def mkD (s : St) (k : Nat) : Option (PV × Blk) → Option (OpR × St)
  | some (v, b) => some (.val v, { env := s.env, L := s.L.set k b, H := s.H })
  | none => none
@[simp] theorem mkK_some (s : St) (L v b) : mkK s L (some (v, b)) = some (.val v, { env := s.env, L := L ++ [b], H := s.H }) := rfl
@[simp] theorem mkK_none (s : St) (L) : mkK s L none = none := rfl
@[simp] theorem mkD_some (s : St) (k v b) : mkD s k (some (v, b)) = some (.val v, { env := s.env, L := s.L.set k b, H := s.H }) := rfl
@[simp] theorem mkD_none (s : St) (k) : mkD s k none = none := rfl
@[simp] theorem opRun_alloc (t : TypeId) (s : St) : opRun T O wl ⟨dst, .alloc t, ty, pos, after, gd⟩ s = mkK s (shutOps s (.alloc t)) (makeOp T ⟨dst, .alloc t, ty, pos, after, gd⟩ s (shutOps s (.alloc t) :: s.H) s.H.length s.L.length) := by
  simp only [opRun, isMake, if_true, makeOpR, mkK, St.depth]
  split <;> rename_i h <;> simp only [h]
@[simp] theorem opDraw_alloc (L0 : List Blk) (z : Nat) (t : TypeId) (s : St) : opDraw T O wl L0 z ⟨dst, .alloc t, ty, pos, after, gd⟩ s = mkD s (L0.length + z) (makeOp T ⟨dst, .alloc t, ty, pos, after, gd⟩ s (L0 :: s.H) s.H.length (L0.length + z)) := by
  simp only [opDraw, isMake, if_true, makeDraw, mkD, St.depth]
  split <;> rename_i h <;> simp only [h]
@[simp] theorem opRun_box (t : TypeId) (x : Operand) (s : St) : opRun T O wl ⟨dst, .box t x, ty, pos, after, gd⟩ s = mkK s (shutOps s (.box t x)) (makeOp T ⟨dst, .box t x, ty, pos, after, gd⟩ s (shutOps s (.box t x) :: s.H) s.H.length s.L.length) := by
  simp only [opRun, isMake, if_true, makeOpR, mkK, St.depth]
  split <;> rename_i h <;> simp only [h]
@[simp] theorem opDraw_box (L0 : List Blk) (z : Nat) (t : TypeId) (x : Operand) (s : St) : opDraw T O wl L0 z ⟨dst, .box t x, ty, pos, after, gd⟩ s = mkD s (L0.length + z) (makeOp T ⟨dst, .box t x, ty, pos, after, gd⟩ s (L0 :: s.H) s.H.length (L0.length + z)) := by
  simp only [opDraw, isMake, if_true, makeDraw, mkD, St.depth]
  split <;> rename_i h <;> simp only [h]
@[simp] theorem opRun_makeMap (t : TypeId) (s : St) : opRun T O wl ⟨dst, .makeMap t none, ty, pos, after, gd⟩ s = mkK s (shutOps s (.makeMap t none)) (makeOp T ⟨dst, .makeMap t none, ty, pos, after, gd⟩ s (shutOps s (.makeMap t none) :: s.H) s.H.length s.L.length) := by
  simp only [opRun, isMake, if_true, makeOpR, mkK, St.depth]
  split <;> rename_i h <;> simp only [h]
@[simp] theorem opRun_insert (t : TypeId) (m k x : Operand) (s : St) : opRun T O wl ⟨dst, .insert t m k x, ty, pos, after, gd⟩ s = stK s (mapS T wl t (s.eval m) (s.eval k) (s.eval x) (s.L :: s.H)) := by
  simp only [opRun, mapOp, St.stack, stK]
  cases mapS T wl t (s.eval m) (s.eval k) (s.eval x) (s.L :: s.H) with
  | none => rfl
  | some S => cases S <;> rfl
@[simp] theorem opRun_mapUpdate (t : TypeId) (m k x : Operand) (s : St) : opRun T O wl ⟨dst, .mapUpdate t m k x, ty, pos, after, gd⟩ s = stK s (mapS T wl t (s.eval m) (s.eval k) (s.eval x) (s.L :: s.H)) := by
  simp only [opRun, mapOp, St.stack, stK]
  cases mapS T wl t (s.eval m) (s.eval k) (s.eval x) (s.L :: s.H) with
  | none => rfl
  | some S => cases S <;> rfl
@[simp] theorem opRun_buildSlice (t : TypeId) (n : Nat) (parts : Array (Nat × Operand)) (s : St) : opRun T O wl ⟨dst, .buildSlice t n parts, ty, pos, after, gd⟩ s = mkK s (shutOps s (.buildSlice t n parts)) (makeOp T ⟨dst, .buildSlice t n parts, ty, pos, after, gd⟩ s (shutOps s (.buildSlice t n parts) :: s.H) s.H.length s.L.length) := by
  simp only [opRun, isMake, if_true, makeOpR, mkK, St.depth]
  split <;> rename_i h <;> simp only [h]
@[simp] theorem opDraw_buildSlice (L0 : List Blk) (z : Nat) (t : TypeId) (n : Nat) (parts : Array (Nat × Operand)) (s : St) : opDraw T O wl L0 z ⟨dst, .buildSlice t n parts, ty, pos, after, gd⟩ s = mkD s (L0.length + z) (makeOp T ⟨dst, .buildSlice t n parts, ty, pos, after, gd⟩ s (L0 :: s.H) s.H.length (L0.length + z)) := by
  simp only [opDraw, isMake, if_true, makeDraw, mkD, St.depth]
  split <;> rename_i h <;> simp only [h]
@[simp] theorem opRun_makeSlice (t : TypeId) (l c : Operand) (s : St) : opRun T O wl ⟨dst, .makeSlice t l c, ty, pos, after, gd⟩ s = mkK s (shutOps s (.makeSlice t l c)) (makeOp T ⟨dst, .makeSlice t l c, ty, pos, after, gd⟩ s (shutOps s (.makeSlice t l c) :: s.H) s.H.length s.L.length) := by
  simp only [opRun, isMake, if_true, makeOpR, mkK, St.depth]
  split <;> rename_i h <;> simp only [h]
@[simp] theorem opDraw_makeSlice (L0 : List Blk) (z : Nat) (t : TypeId) (l c : Operand) (s : St) : opDraw T O wl L0 z ⟨dst, .makeSlice t l c, ty, pos, after, gd⟩ s = mkD s (L0.length + z) (makeOp T ⟨dst, .makeSlice t l c, ty, pos, after, gd⟩ s (L0 :: s.H) s.H.length (L0.length + z)) := by
  simp only [opDraw, isMake, if_true, makeDraw, mkD, St.depth]
  split <;> rename_i h <;> simp only [h]
end
section
variable {T : Tab} {O : Orc} {wl : Nat} {keep : FuncId → Bool} {fns : FuncId → Option Func}
def leaveK (keep : FuncId → Bool) (f : FuncId) (s : St) : Option (List PV) → Option (Out × Heap)
  | some vs => leave keep f s (tupled vs)
  | none => none
@[simp] theorem leaveK_some (f : FuncId) (s : St) (vs) : leaveK keep f s (some vs) = leave keep f s (tupled vs) := rfl
@[simp] theorem bodyK_ret (f : FuncId) (rs) (s : St) : bodyK T keep f rs (some (.ret, s)) = leaveK keep f s (readR T s rs) := rfl
@[simp] theorem bodyK_normal (f : FuncId) (rs) (s : St) : bodyK T keep f rs (some (.normal, s)) = leaveK keep f s (readR T s rs) := rfl
@[simp] theorem bodyK_panic (f : FuncId) (rs) (v : PV) (s : St) : bodyK T keep f rs (some (.panic v, s)) = if isData v then some (.panic v, s.H) else none := rfl
@[simp] theorem bodyK_none (f : FuncId) (rs) : bodyK T keep f rs none = none := rfl
@[simp] theorem bodyK_ite (f : FuncId) (rs) (p : Prop) [Decidable p] (x y) : bodyK T keep f rs (if p then x else y) = if p then bodyK T keep f rs x else bodyK T keep f rs y := by split <;> rfl
theorem callBody_eq {f : FuncId} {fn : Func} {c : Code} {rs : List ResultVar} (hf : fns f = some fn) (hb : fn.body = some c) (hw : wfFunc fn = true) (hr : fn.results = rs.toArray) (args : List PV) (ha : args.length ≤ fn.ntmps) (H : Heap) :
    callBody T O wl fns keep f args H = bodyK T keep f rs (run T O wl c { env := fun i => (args[i]?).getD undefP, L := [], H := H }) := by
  unfold callBody bodyK
  simp only [hf, hb, hw, hr]
  rw [if_neg (by simp; omega)]
  cases run T O wl c { env := fun i => (args[i]?).getD undefP, L := [], H := H } with
  | none => rfl
  | some q =>
    obtain ⟨x, s⟩ := q
    cases x <;> first | rfl | (simp only []; cases readR T s rs <;> rfl)
def leaveV (d : Nat) (H : Heap) : Option PV → Option (Out × Heap)
  | some v' => if within (d - 1) v' && decide (0 < d) then some (.ret v', H) else none
  | none => none
@[simp] theorem leaveV_some (d : Nat) (H : Heap) (v : PV) : leaveV d H (some v) = if within (d - 1) v && decide (0 < d) then some (.ret v, H) else none := rfl
theorem leave_eq {f : FuncId} (hk : keep f = false) (s : St) (v : PV) : leave keep f s v = leaveV s.H.length s.H (frz (s.L :: s.H) s.H.length false v) := by
  unfold leave leaveV
  simp only [hk, St.stack, St.depth]
  cases frz (s.L :: s.H) s.H.length false v <;> rfl
end
end Go.GL
