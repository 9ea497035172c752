/-
  GL, part Sp: what a seat's special functions are, as lists; code's parts; the simplifier's lemmas for a seat's machine.
-/
import Derived.Test.YtafgloejojikoaaMGlRc
import Derived.Test.YtafgloejojikoaaMGlAa
set_option linter.unusedSimpArgs false
set_option linter.unusedVariables false
/-! GL, part Sp: what a seat's special functions are, as lists; code's parts; the simplifier's lemmas for a seat's machine. -/
namespace Go.GL

abbrev GSpec := Orc → Nat → List PV → Heap → Option (Out × Heap)

structure GOk (g : GSpec) : Prop where
  le : ∀ A B, Orc.le A B → ∀ wl args H r, g A wl args H = some r → g B wl args H = some r
  lim : ∀ C E, Orc.Lim C E → ∀ wl args H r, g E wl args H = some r → ∃ n, g (C n) wl args H = some r

def GHolds (P : Program) (T : Tab) (f : FuncId) (g : GSpec) : Prop := ∀ O, CallOk P O → LoopOk P O → BackOk P T O →
  ∀ wl args H out H', g O wl args H = some (out, H') → ∀ F φ w (vs : Array Value), Inv F φ H w → Reps F φ args vs.toList →
    Goes P f vs w fun e w' => ∃ F' φ', Adv (fun d => wl ≤ d) F φ H w F' φ' H' w' ∧ Inv F' φ' H' w' ∧ RelOut F' φ' out e

def Spec.ofList (l : List (Nat × GSpec)) (b : List (Nat × Nat)) : Spec := ⟨fun f => l.lookup f, fun f => b.lookup f⟩

theorem lookup_mem {α : Type} {l : List (Nat × α)} {k : Nat} {v : α} (h : l.lookup k = some v) : (k, v) ∈ l := by
  induction l with
  | nil => cases h
  | cons p l ih =>
    obtain ⟨k', v'⟩ := p
    rw [List.lookup_cons] at h
    split at h
    · rename_i hk
      have : k = k' := by simpa using hk
      subst this
      injection h with h
      subst h
      exact List.mem_cons_self
    · exact List.mem_cons_of_mem _ (ih h)

theorem specOk_list {l : List (Nat × GSpec)} {b : List (Nat × Nat)} (h : ∀ p ∈ l, GOk p.2) : SpecOk (Spec.ofList l b) :=
  ⟨fun f g hf => (h (f, g) (lookup_mem hf)).le, fun f g hf => (h (f, g) (lookup_mem hf)).lim⟩

theorem specHolds_list {P : Program} {T : Tab} {l : List (Nat × GSpec)} {b : List (Nat × Nat)} (h : ∀ p ∈ l, GHolds P T p.1 p.2) (hb : ∀ p ∈ b, RowsBack P T p.1 p.2) : SpecHolds P T (Spec.ofList l b) :=
  ⟨fun f g hf => h (f, g) (lookup_mem hf), fun f e hf => hb (f, e) (lookup_mem hf)⟩

theorem backG_gok (k : FuncId) : GOk (backG k) := ⟨fun _ _ _ _ _ _ _ e => e, fun _ _ _ _ _ _ _ e => ⟨0, e⟩⟩

def tryX (T : Tab) (y : Try) (n : Nat) : GSpec := fun O wl args H => if args.length ≤ n ∧ wl ≤ H.length then tryG T y O wl args H else none

theorem tryX_gok (T : Tab) (y : Try) (n : Nat) : GOk (tryX T y n) := by
  refine ⟨fun A B h wl args H r e => ?_, fun C E h wl args H r e => ?_⟩
  · unfold tryX at *
    split at e
    · rename_i hh; rw [if_pos hh]; exact tryG_le h e
    · cases e
  · unfold tryX at *
    split at e
    · rename_i hh; simp only [if_pos hh]; exact tryG_lim h e
    · cases e

def codeL : Code → Code
  | .seq a _ => a
  | c => c
def codeR : Code → Code
  | .seq _ b => b
  | c => c
/-- A part of a code: 0: what comes first; 1: what follows; 2: what a block or a loop holds. -/
def pathC : List Nat → Code → Code
  | [], c => c
  | 0 :: p, .seq a _ => pathC p a
  | 1 :: p, .seq _ b => pathC p b
  | 2 :: p, .block _ c => pathC p c
  | 2 :: p, .loop c => pathC p c
  | _, c => c
def bodyOf (f : Func) : Code := f.body.getD .skip

theorem tryX_holds {P : Program} {T : Tab} (hT : TOk P T) (hm : P.follows .mixedOrders = true) {f k : FuncId} {fn fk : Func} (hf : P.funcs[f]? = some fn) (hn : (fn.name == "runtime.NumGoroutine") = false) (hk : P.funcs[k]? = some fk) (hkn : (fk.name == "runtime.NumGoroutine") = false)
    {i1 tm : Nat} {om od : Oper} {c0 c1 : Code} {caps : List Operand} (hb : fn.body = some (.seq c0 (.seq (.region i1 #[om, od] false) c1))) (h1 : IsOp om (some tm) (.makeFunc (.func k) #[] caps.toArray)) (h2 : IsOp od none (.defer ⟨.value (.tmp tm), #[], #[]⟩)) (htm : tm < fn.ntmps) (hw0 : wfCode fn.ntmps c0 = true) (hw1 : wfCode fn.ntmps c1 = true)
    {i0 r1 r2 : Nat} {o1 o2 : Oper} {c2 : Code} {tys : Array TypeId} (kb : fk.body = some (.seq (.region i0 #[o1, o2] false) c2)) (k1 : IsOp o1 (some r1) (.call ⟨.builtin .recover, #[], tys⟩)) (k2 : IsOp o2 (some r2) (.assign (.tmp r1))) (hr1 : r1 < fk.ntmps) (hr2 : r2 < fk.ntmps) (hne : r1 ≠ r2) (hres : fk.results = #[]) (hw2 : wfCode fk.ntmps c2 = true) (hcl : caps.length ≤ fk.ntmps)
    {rs : List ResultVar} (hrs : fn.results = rs.toArray) : GHolds P T f (tryX T ⟨c0, tm, k, caps, c1, rs, r1, r2, c2⟩ fn.ntmps) := by
  intro O hO hL hB wl args H out H' hg F φ w vs hI hr
  unfold tryX at hg
  split at hg
  · rename_i hh
    exact tryG_ok hT hm hf hn hk hkn hb h1 h2 htm hw0 hw1 kb k1 k2 hr1 hr2 hne hres hw2 hcl hrs hO hL hh.1 hh.2 hg hI hr
  · cases hg

/-! ### For the simplifier -/
@[simp] theorem upd_apply (env : Nat → PV) (i j : Nat) (v : PV) : upd env i v j = if j = i then v else env j := rfl
@[simp] theorem put_some (s : St) (d : Nat) (v : PV) : s.put (some d) v = ⟨upd s.env d v, s.L, s.H⟩ := rfl
@[simp] theorem leave_no (f : FuncId) (s : St) (v : PV) : leave (fun _ => false) f s v = leaveV s.H.length s.H (frz (s.L :: s.H) s.H.length false v) := leave_eq rfl s v
@[simp] theorem put_none (s : St) (v : PV) : s.put none v = s := rfl
end Go.GL
