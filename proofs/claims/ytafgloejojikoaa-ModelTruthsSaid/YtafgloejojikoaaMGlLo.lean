/-
  GL, part Lo: loops, by an invariant; what the simplifier knows of lists of blocks.
-/
import Derived.Test.YtafgloejojikoaaMGlSp
import Derived.IntWalk
set_option linter.unusedSimpArgs false
set_option linter.unusedVariables false
/-! GL, part Lo: loops, by an invariant; what the simplifier knows of lists of blocks. -/
namespace Go.GL

def wpo (P : Ex → St → Prop) : Option (Ex × St) → Prop
  | some (x, s) => P x s
  | none => False
@[simp] theorem wpo_some (P : Ex → St → Prop) (x : Ex) (s : St) : wpo P (some (x, s)) = P x s := rfl
@[simp] theorem wpo_none (P : Ex → St → Prop) : wpo P none = False := rfl
@[simp] theorem wpo_ite (P : Ex → St → Prop) (p : Prop) [Decidable p] (x y) : wpo P (if p then x else y) = if p then wpo P x else wpo P y := by split <;> rfl

/-- A round's end: it goes on, or it leaves. -/
def Goon (I : St → Prop) (Q : Ex → St → Prop) : Ex → St → Prop
  | .normal, s => I s
  | x, s => Q x s
@[simp] theorem Goon_normal (I : St → Prop) (Q : Ex → St → Prop) (s : St) : Goon I Q .normal s = I s := rfl
@[simp] theorem Goon_exit (I : St → Prop) (Q : Ex → St → Prop) (id : Nat) (s : St) : Goon I Q (.exit id) s = Q (.exit id) s := rfl
@[simp] theorem Goon_ret (I : St → Prop) (Q : Ex → St → Prop) (s : St) : Goon I Q .ret s = Q .ret s := rfl
@[simp] theorem Goon_panic (I : St → Prop) (Q : Ex → St → Prop) (v : PV) (s : St) : Goon I Q (.panic v) s = Q (.panic v) s := rfl

section
variable {T : Tab} {O : Orc} {wl : Nat} (hl : ∀ c s, O.loop wl c s = run T O wl (.loop c) s)
include hl

/-- n: how many rounds at most. -/
theorem loop_up {c : Code} {s : St} {z : Option (Ex × St)} (hz : run T O wl (.loop c) s = z) (n : Nat) (I : Nat → St → Prop) (Q : Ex → St → Prop) (h0 : I 0 s) (step : ∀ i s, i < n → I i s → wpo (Goon (I (i + 1)) Q) (run T O wl c s)) (fin : ∀ s, I n s → wpo (Goon (fun _ => False) Q) (run T O wl c s)) :
    ∃ x s', z = some (x, s') ∧ Q x s' := by
  subst hz
  have key : ∀ m i s, i + m = n → I i s → ∃ x s', run T O wl (.loop c) s = some (x, s') ∧ Q x s' := by
    intro m
    induction m with
    | zero =>
      intro i s hi hI
      have : i = n := by omega
      subst this
      have hf := fin s hI
      rw [run_loop]
      cases hr : run T O wl c s with
      | none => rw [hr] at hf; exact hf.elim
      | some q =>
        obtain ⟨x, s'⟩ := q
        rw [hr] at hf
        cases x with
        | normal => exact hf.elim
        | _ => exact ⟨_, s', rfl, hf⟩
    | succ m ih =>
      intro i s hi hI
      have hf := step i s (by omega) hI
      rw [run_loop]
      cases hr : run T O wl c s with
      | none => rw [hr] at hf; exact hf.elim
      | some q =>
        obtain ⟨x, s'⟩ := q
        rw [hr] at hf
        cases x with
        | normal =>
          simp only [loopK_normal, hl]
          exact ih (i + 1) s' (by omega) hf
        | _ => exact ⟨_, s', rfl, hf⟩
  exact key n 0 s (by omega) h0
end

def rangeK (T : Tab) (O : Orc) (wl : Nat) (asg body : Code) (s : St) : Option (Nat × Nat × TI × List PV) → Option (Ex × St)
  | some (p, q, ei, xs) => backR (run T O wl asg) (run T O wl body) p q ei s.env xs xs.length s.L s.H
  | none => none
@[simp] theorem rangeK_some (T : Tab) (O : Orc) (wl : Nat) (asg body : Code) (s : St) (p q : Nat) (ei : TI) (xs : List PV) : rangeK T O wl asg body s (some (p, q, ei, xs)) = backR (run T O wl asg) (run T O wl body) p q ei s.env xs xs.length s.L s.H := rfl
@[simp] theorem run_range (T : Tab) (O : Orc) (wl : Nat) (g : Operand) (ps : Array Nat) (asg body : Code) (s : St) : run T O wl (.rangeFunc g ps asg body) s = rangeK T O wl asg body s (rangeP T O ps (s.eval g)) := by
  simp only [run, rangeK]
  cases rangeP T O ps (s.eval g) with
  | none => rfl
  | some q => rfl
attribute [simp] rangeP rowsP

/-- What a round of a range from a row's end comes to. -/
def Backon (I : List Blk → Heap → Prop) (Q : Ex → St → Prop) (env : Nat → PV) : Ex → St → Prop
  | .normal, s => I s.L s.H
  | x, s => Q x ⟨env, s.L, s.H⟩
@[simp] theorem Backon_normal (I : List Blk → Heap → Prop) (Q : Ex → St → Prop) (env : Nat → PV) (s : St) : Backon I Q env .normal s = I s.L s.H := rfl
@[simp] theorem Backon_ret (I : List Blk → Heap → Prop) (Q : Ex → St → Prop) (env : Nat → PV) (s : St) : Backon I Q env .ret s = Q .ret ⟨env, s.L, s.H⟩ := rfl
@[simp] theorem Backon_exit (I : List Blk → Heap → Prop) (Q : Ex → St → Prop) (env : Nat → PV) (id : Nat) (s : St) : Backon I Q env (.exit id) s = Q (.exit id) ⟨env, s.L, s.H⟩ := rfl
@[simp] theorem Backon_panic (I : List Blk → Heap → Prop) (Q : Ex → St → Prop) (env : Nat → PV) (v : PV) (s : St) : Backon I Q env (.panic v) s = Q (.panic v) ⟨env, s.L, s.H⟩ := rfl
def Begun (P : St → Prop) : Ex → St → Prop
  | .normal, s => P s
  | _, _ => False
@[simp] theorem Begun_normal (P : St → Prop) (s : St) : Begun P .normal s = P s := rfl

theorem back_rule {A B : St → Option (Ex × St)} {p q : Nat} {ei : TI} {env : Nat → PV} {xs : List PV} {L : List Blk} {H : Heap} {z : Option (Ex × St)} (hz : backR A B p q ei env xs xs.length L H = z) (I : Nat → List Blk → Heap → Prop) (Q : Ex → St → Prop) (h0 : I xs.length L H)
    (step : ∀ i L H x y, xs[i]? = some x → loadV ei (cellsOf x) 0 = some y → I (i + 1) L H → wpo (Begun fun s => wpo (Backon (I i) Q env) (B s)) (A ⟨upd (upd env p (.int .i64 i)) q y, L, H⟩))
    (hl : ∀ x ∈ xs, ∃ y, loadV ei (cellsOf x) 0 = some y) (fin : ∀ L H, I 0 L H → Q .normal ⟨env, L, H⟩) : ∃ x s', z = some (x, s') ∧ Q x s' := by
  subst hz
  have key : ∀ i, i ≤ xs.length → ∀ L H, I i L H → ∃ x s', backR A B p q ei env xs i L H = some (x, s') ∧ Q x s' := by
    intro i
    induction i with
    | zero => exact fun _ L H hI => ⟨_, _, rfl, fin L H hI⟩
    | succ i ih =>
      intro hi L H hI
      have hx : xs[i]? = some xs[i] := List.getElem?_eq_getElem (by omega)
      obtain ⟨y, hy⟩ := hl xs[i] (List.getElem_mem (by omega))
      have hs := step i L H _ y hx hy hI
      simp only [backR, hx, Option.bind_some, hy]
      cases ha : A ⟨upd (upd env p (.int .i64 i)) q y, L, H⟩ with
      | none => rw [ha] at hs; exact hs.elim
      | some o =>
        obtain ⟨x1, s1⟩ := o
        rw [ha] at hs
        cases x1 <;> try exact hs.elim
        simp only [wpo_some, Begun_normal] at hs ⊢
        cases hb : B s1 with
        | none => rw [hb] at hs; exact hs.elim
        | some o =>
          obtain ⟨x2, s2⟩ := o
          rw [hb] at hs
          cases x2 with
          | normal => exact ih (by omega) _ _ hs
          | _ => exact ⟨_, _, rfl, hs⟩
  exact key _ (Nat.le_refl _) L H h0

@[simp] theorem app_at (L M : List Blk) : (L ++ M)[L.length]? = M[0]? := by rw [List.getElem?_append_right (Nat.le_refl _), Nat.sub_self]
@[simp] theorem app_at' (L M : List Blk) (k : Nat) : (L ++ M)[L.length + k]? = M[k]? := by rw [List.getElem?_append_right (Nat.le_add_right _ _), Nat.add_sub_cancel_left]
@[simp] theorem app_set (L M : List Blk) (b : Blk) : (L ++ M).set L.length b = L ++ M.set 0 b := by rw [List.set_append_right _ _ (Nat.le_refl _), Nat.sub_self]
@[simp] theorem app_set' (L M : List Blk) (k : Nat) (b : Blk) : (L ++ M).set (L.length + k) b = L ++ M.set k b := by rw [List.set_append_right _ _ (Nat.le_add_right _ _), Nat.add_sub_cancel_left]
@[simp] theorem wantK_undefP (T : Tab) (O : Orc) (wl : Nat) (ops : Array Oper) (o : Oper) (s : St) (w : Bool) : wantK (T := T) (O := O) (wl := wl) ops o s w (some undefP) = some (.val undefP, s) := rfl
@[simp] theorem wantD_undefP (T : Tab) (O : Orc) (wl : Nat) (ops : Array Oper) (L0 : List Blk) (i : Nat) (o : Oper) (s : St) (w : Bool) : wantD (T := T) (O := O) (wl := wl) ops L0 i o s w (some undefP) = some (.val undefP, s) := rfl
def appV (s : St) (v : PV) : Heap → Option (OpR × St)
  | L :: H => some (.val v, { env := s.env, L := L, H := H })
  | [] => none
@[simp] theorem appV_cons (s : St) (v : PV) (L : List Blk) (H : Heap) : appV s v (L :: H) = some (.val v, { env := s.env, L := L, H := H }) := rfl
def appK (s : St) : Option (PV × (Heap → Heap)) → Option (OpR × St)
  | some (v, g) => appV s v (g (s.L :: s.H))
  | none => none
@[simp] theorem appK_some (s : St) (v : PV) (g : Heap → Heap) : appK s (some (v, g)) = appV s v (g (s.L :: s.H)) := rfl
@[simp] theorem appK_ite (s : St) (p : Prop) [Decidable p] (x y) : appK s (if p then x else y) = if p then appK s x else appK s y := by split <;> rfl
def appT (T : Tab) (wl : Nat) (s : St) (a b : PV) : Option TI → Option TI → Option (OpR × St)
  | some ti, some tj => match ti.td, tj.td with
    | .slice e, .slice _ => appK s (appendP T wl e a b (s.L :: s.H) s.H.length s.L.length)
    | _, _ => none
  | _, _ => none
@[simp] theorem opRun_append (T : Tab) (O : Orc) (wl : Nat) (dst : Option Nat) (ty : TypeId) (pos : String) (after : Array Edge) (gd : Option (Nat × Bool)) (a b : Operand) (t u : TypeId) (s : St) :
    opRun T O wl ⟨dst, .call ⟨.builtin .append, #[a, b], #[t, u]⟩, ty, pos, after, gd⟩ s = appT T wl s (s.eval a) (s.eval b) (T t) (T u) := by
  simp only [opRun, appendOp, appT]
  cases ht : T t with
  | none => simp [ht]
  | some ti =>
    cases hu : T u with
    | none => simp [ht, hu]
    | some tj =>
      simp only [List.map_cons, List.map_nil, List.getElem?_toArray, List.getElem?_cons_zero, List.getElem?_cons_succ, Option.bind_some, ht, hu]
      cases ti.td <;> cases tj.td <;> try rfl
      simp only [appK, St.stack, St.depth]
      rename_i e e'
      cases appendP T wl e (s.eval a) (s.eval b) (s.L :: s.H) s.H.length s.L.length with
      | none => rfl
      | some q =>
        obtain ⟨v, g⟩ := q
        simp only []
        cases g (s.L :: s.H) <;> rfl
attribute [simp] appT
def appG (L0 : List Blk) (d : Nat) (n sz k : Nat) : Heap → Option (PV × Nat × Blk)
  | L :: _ => (match L[k]? with
    | some (.arr true sz' xs) => if xs.length = n ∧ sz' = sz then some (.lst false xs, k, .arr false sz xs) else none
    | _ => none)
  | [] => none
@[simp] theorem appG_cons (L0 : List Blk) (d n sz k : Nat) (L : List Blk) (H : Heap) : appG L0 d n sz k (L :: H) = match L[k]? with
    | some (.arr true sz' xs) => if xs.length = n ∧ sz' = sz then some (.lst false xs, k, .arr false sz xs) else none
    | _ => none := rfl
@[simp] theorem appOut_own (L0 : List Blk) (d len d' k n sz : Nat) (g : Heap → Heap) (S : Heap) : appOut L0 d len (some (.own d' k n sz, g)) S = if d' = d ∧ L0.length ≤ k ∧ k < len then appG L0 d n sz k (g S) else none := rfl
@[simp] theorem appOut_ite (L0 : List Blk) (d len : Nat) (S : Heap) (p : Prop) [Decidable p] (x y) : appOut L0 d len (if p then x else y) S = if p then appOut L0 d len x S else appOut L0 d len y S := by split <;> rfl
def appD (s : St) : Option (PV × Nat × Blk) → Option (OpR × St)
  | some (v, k, b) => some (.val v, { env := s.env, L := s.L.set k b, H := s.H })
  | none => none
@[simp] theorem appD_some (s : St) (v k b) : appD s (some (v, k, b)) = some (.val v, { env := s.env, L := s.L.set k b, H := s.H }) := rfl
def appE (T : Tab) (wl : Nat) (L0 : List Blk) (s : St) (a b : PV) : Option TI → Option TI → Option (OpR × St)
  | some ti, some tj => match ti.td, tj.td with
    | .slice e, .slice _ => appD s (appOut L0 s.H.length s.L.length (appendP T wl e a b (s.L :: s.H) s.H.length s.L.length) (s.L :: s.H))
    | _, _ => none
  | _, _ => none
attribute [simp] appE
@[simp] theorem opDraw_append (T : Tab) (O : Orc) (wl : Nat) (L0 : List Blk) (i : Nat) (dst : Option Nat) (ty : TypeId) (pos : String) (after : Array Edge) (gd : Option (Nat × Bool)) (a b : Operand) (t u : TypeId) (s : St) :
    opDraw T O wl L0 i ⟨dst, .call ⟨.builtin .append, #[a, b], #[t, u]⟩, ty, pos, after, gd⟩ s = appE T wl L0 s (s.eval a) (s.eval b) (T t) (T u) := by
  simp only [opDraw, appDraw, appRead, appE]
  cases ht : T t with
  | none => simp [ht]
  | some ti =>
    cases hu : T u with
    | none => simp [ht, hu]
    | some tj =>
      simp only [List.map_cons, List.map_nil, List.getElem?_toArray, List.getElem?_cons_zero, List.getElem?_cons_succ, Option.bind_some, ht, hu]
      cases ti.td <;> cases tj.td <;> try rfl
      simp only [St.stack, St.depth]
      cases appOut L0 s.H.length s.L.length _ _ <;> rfl
theorem app_old {L M : List Blk} {k : Nat} {b : Blk} (h : L[k]? = some b) : (L ++ M)[k]? = some b := by
  rw [List.getElem?_append_left (List.getElem?_eq_some_iff.1 h).1]; exact h
theorem old_ne {L : List Blk} {k : Nat} {b : Blk} (h : L[k]? = some b) : ¬ L.length = k := by
  have := (List.getElem?_eq_some_iff.1 h).1
  omega

attribute [simp] sealOp takes grows isTmp isCallV St.eval makeOp shutOps cellsOf flat pureOp loadP loadV TD.isAgg atS indexP pickE fillS splice storeS within withinL setS ofV readR tupled frz frzL lenP binOpP St.stack shut shutL isData isDataL isDataT there thereL List.getElem?_cons_zero List.getElem?_cons_succ guardP pickV sliceP strCut lstCut lateOf newSt isRead isGc isBox hard isStore fillE appendP rowOf pushS isBoolT isIfaceT isConst lookupP lookM lookR mapS putM keyOk keyEq mfind mput eqFs eqAgg

@[simp] theorem wrap_i64_1 : IntKind.wrap .i64 1 = 1 := by decide
@[simp] theorem wrap_i64_0 : IntKind.wrap .i64 0 = 0 := by decide

theorem i64w {n : Int} (h1 : -9223372036854775808 ≤ n) (h2 : n ≤ 9223372036854775807) : IntKind.i64.wrap n = n := IntWalk.i64_in n ⟨h1, h2⟩

/-! ### Values of types -/
theorem has_int {T : Tab} {t : Nat} {ti : TI} {k : IntKind} {p : PV} (h : HasT T t p) (ht : T t = some ti) (hd : ti.td = .int k) : ∃ n, p = .int k n ∧ (Lit.int k n).wf = true := by
  cases h with
  | int _ ti' k' n ht' hd' hw =>
    rw [ht] at ht'
    injection ht' with ht'
    subst ht'
    rw [hd] at hd'
    injection hd' with hd'
    subst hd'
    exact ⟨n, rfl, hw⟩
  | bool _ ti' _ ht' hd' | str _ ti' _ ht' hd' | lst _ ti' _ _ _ ht' hd' _ | agg _ ti' _ _ ht' hd' _ _ =>
    rw [ht] at ht'
    injection ht' with ht'
    subst ht'
    rw [hd] at hd'
    cases hd'
theorem has_bool {T : Tab} {t : Nat} {ti : TI} {p : PV} (h : HasT T t p) (ht : T t = some ti) (hd : ti.td = .bool) : ∃ b, p = .bool b := by
  cases h with
  | bool _ ti' b ht' hd' => exact ⟨b, rfl⟩
  | int _ ti' _ _ ht' hd' _ | str _ ti' _ ht' hd' | lst _ ti' _ _ _ ht' hd' _ | agg _ ti' _ _ ht' hd' _ _ =>
    rw [ht] at ht'
    injection ht' with ht'
    subst ht'
    rw [hd] at hd'
    cases hd'
theorem has_str {T : Tab} {t : Nat} {ti : TI} {p : PV} (h : HasT T t p) (ht : T t = some ti) (hd : ti.td = .str) : ∃ s, p = .str s := by
  cases h with
  | str _ ti' s ht' hd' => exact ⟨s, rfl⟩
  | int _ ti' _ _ ht' hd' _ | bool _ ti' _ ht' hd' | lst _ ti' _ _ _ ht' hd' _ | agg _ ti' _ _ ht' hd' _ _ =>
    rw [ht] at ht'
    injection ht' with ht'
    subst ht'
    rw [hd] at hd'
    cases hd'
theorem has_lst {T : Tab} {t : Nat} {ti : TI} {e : Nat} {p : PV} (h : HasT T t p) (ht : T t = some ti) (hd : ti.td = .slice e) : ∃ f xs, p = .lst f xs ∧ ∀ x ∈ xs, HasT T e x := by
  cases h with
  | lst _ ti' e' f xs ht' hd' hx =>
    rw [ht] at ht'
    injection ht' with ht'
    subst ht'
    rw [hd] at hd'
    injection hd' with hd'
    subst hd'
    exact ⟨f, xs, rfl, hx⟩
  | int _ ti' _ _ ht' hd' _ | bool _ ti' _ ht' hd' | str _ ti' _ ht' hd' | agg _ ti' _ _ ht' hd' _ _ =>
    rw [ht] at ht'
    injection ht' with ht'
    subst ht'
    rw [hd] at hd'
    cases hd'
end Go.GL
