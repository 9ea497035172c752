/-
  GL, part Nl: functions that ask whether a slice is nil: of an empty one both answers must come to the same.
-/
import Derived.Test.YtafgloejojikoaaMGlSp
import Derived.Lib.SliceRun
set_option linter.unusedSimpArgs false
set_option linter.unusedVariables false
/-! GL, part Nl: functions that ask whether a slice is nil: of an empty one both answers must come to the same. -/
namespace Go.GL

/-- c0; y := x; b := (y == nil); c1. -/
structure NilT where
  c0 : Code
  x : Nat
  y : Nat
  b : Nat
  c1 : Code
  results : List ResultVar

noncomputable section
def nilF (T : Tab) (O : Orc) (wl : Nat) (n : NilT) (s1 : St) (v : Bool) : Option (Out × Heap) :=
  bodyK T (fun _ => false) 0 n.results (run T O wl n.c1 ⟨upd (upd s1.env n.y (s1.env n.x)) n.b (.bool v), s1.L, s1.H⟩)

open Classical in
def nilK (T : Tab) (O : Orc) (wl : Nat) (n : NilT) : Option (Ex × St) → Option (Out × Heap)
  | some (.normal, s1) => match s1.env n.x with
    | .lst _ [] => if nilF T O wl n s1 true = nilF T O wl n s1 false then nilF T O wl n s1 false else none
    | .lst _ (_ :: _) => nilF T O wl n s1 false
    | _ => none
  | _ => none

def nilG (T : Tab) (n : NilT) (m : Nat) : GSpec := fun O wl args H =>
  if args.length ≤ m then nilK T O wl n (run T O wl n.c0 { env := fun i => (args[i]?).getD undefP, L := [], H := H }) else none
end

theorem nilF_le {T : Tab} {n : NilT} {A B : Orc} (h : Orc.le A B) {wl s1 v r} (e : nilF T A wl n s1 v = some r) : nilF T B wl n s1 v = some r := by
  unfold nilF at *
  cases h0 : run T A wl n.c1 ⟨upd (upd s1.env n.y (s1.env n.x)) n.b (.bool v), s1.L, s1.H⟩ with
  | none => rw [h0] at e; cases e
  | some q => rw [h0] at e; rw [run_le h _ _ h0]; exact e

theorem nilF_lim {T : Tab} {n : NilT} {C : Nat → Orc} {E : Orc} (h : Orc.Lim C E) {wl s1 v r} (e : nilF T E wl n s1 v = some r) : ∃ k, nilF T (C k) wl n s1 v = some r := by
  unfold nilF at *
  cases h0 : run T E wl n.c1 ⟨upd (upd s1.env n.y (s1.env n.x)) n.b (.bool v), s1.L, s1.H⟩ with
  | none => rw [h0] at e; cases e
  | some q =>
    obtain ⟨k, e0⟩ := run_lim h _ _ h0
    rw [h0] at e
    exact ⟨k, by rw [e0]; exact e⟩

theorem nilK_le {T : Tab} {n : NilT} {A B : Orc} (h : Orc.le A B) {wl z r} (e : nilK T A wl n z = some r) : nilK T B wl n z = some r := by
  unfold nilK at *
  split at e
  · split at e
    · split at e
      · rename_i hx heq
        have e1 := nilF_le h e
        have e2 := nilF_le h (heq.trans e)
        rw [if_pos (e2.trans e1.symm)]
        exact e1
      · cases e
    · exact nilF_le h e
    · cases e
  · cases e

theorem nilK_lim {T : Tab} {n : NilT} {C : Nat → Orc} {E : Orc} (h : Orc.Lim C E) {wl z r} (e : nilK T E wl n z = some r) : ∃ k, nilK T (C k) wl n z = some r := by
  unfold nilK at *
  split at e
  · split at e
    · rename_i hx
      split at e
      · rename_i heq
        obtain ⟨k1, e1⟩ := nilF_lim h e
        obtain ⟨k2, e2⟩ := nilF_lim h (heq.trans e)
        have l1 := nilF_le (h.mono (n := k1) (m := max k1 k2) (Nat.le_max_left _ _)) e1
        have l2 := nilF_le (h.mono (n := k2) (m := max k1 k2) (Nat.le_max_right _ _)) e2
        exact ⟨max k1 k2, by rw [if_pos (l2.trans l1.symm)]; exact l1⟩
      · cases e
    · obtain ⟨k, e1⟩ := nilF_lim h e
      exact ⟨k, e1⟩
    · cases e
  · cases e

theorem nilG_gok (T : Tab) (n : NilT) (m : Nat) : GOk (nilG T n m) := by
  refine ⟨fun A B h wl args H r e => ?_, fun C E h wl args H r e => ?_⟩
  · unfold nilG at *
    split at e
    · rename_i hh
      rw [if_pos hh]
      cases h0 : run T A wl n.c0 { env := fun i => (args[i]?).getD undefP, L := [], H := H } with
      | none => rw [h0] at e; cases e
      | some q => rw [h0] at e; rw [run_le h _ _ h0]; exact nilK_le h e
    · cases e
  · unfold nilG at *
    split at e
    · rename_i hh
      simp only [if_pos hh]
      cases h0 : run T E wl n.c0 { env := fun i => (args[i]?).getD undefP, L := [], H := H } with
      | none => rw [h0] at e; cases e
      | some q =>
        rw [h0] at e
        obtain ⟨k0, e0⟩ := run_lim h _ _ h0
        obtain ⟨k1, e1⟩ := nilK_lim h e
        refine ⟨max k0 k1, ?_⟩
        rw [run_le (h.mono (n := k0) (m := max k0 k1) (Nat.le_max_left _ _)) _ _ e0]
        exact nilK_le (h.mono (n := k1) (m := max k0 k1) (Nat.le_max_right _ _)) e1
    · cases e

/-- Two codes, one behind the other. -/
theorem run_two {P : Program} {T : Tab} {O : Orc} {n : Nat} {ds : List Deferred} {W : Nat → Prop} (hT : TOk P T) (hO : CallOk P O) (hL : LoopOk P O) (hm : P.follows .mixedOrders = true) {wl : Nat} {ca cb : Code} {s : St} {ex : Ex} {s2 : St} {F : FM} {φ : PM} {a : Act} {w : World} (hwa : wfCode n ca = true) (hwb : wfCode n cb = true)
    (h : run T O wl (.seq ca cb) s = some (ex, s2)) (hW : ∀ d, wl ≤ d ∨ d = s.depth → W d) (hI : Inv F φ s.stack w) (hE : EnvOk n ds F φ s a) {Q : Exit → Act → World → Prop} (hQ : ∀ e a w', Outs W n ds F φ s.stack w ex s2 e a w' → Q e a w') :
    ca.wp P (Exit.then (cb.wp P Q) Q) a w := by
  simp only [run] at h
  cases hx : run T O wl ca s with
  | none => rw [hx] at h; cases h
  | some q =>
    obtain ⟨ex1, s1⟩ := q
    rw [hx] at h
    refine wp_mono (run_ok hT hO hL hm ca s ex1 s1 F φ a w hwa hx hW hI hE) fun e a1 w1 ho => ?_
    obtain ⟨F1, φ1, h1, h2, h3⟩ := ho
    by_cases hn : ex1 = .normal
    · subst hn
      simp only [] at h
      obtain ⟨rfl, h3⟩ := h3.normal
      show cb.wp P Q a1 w1
      refine wp_mono (run_ok hT hO hL hm cb s1 ex s2 F1 φ1 a1 w1 hwb h (by rw [depth_of h1]; exact hW) h2 h3) fun e2 a2 w2 ho2 => hQ _ _ _ (ho2.start h1)
    · have he : (ex1, s1) = (ex, s2) := by
        cases ex1 with
        | normal => exact absurd rfl hn
        | _ => simpa using h
      injection he with e1 e2
      subst e1 e2
      exact then_other (hQ _ _ _ ⟨F1, φ1, h1, h2, h3⟩) (h3.other hn)

theorem nilG_holds {P : Program} {T : Tab} (hT : TOk P T) (hm : P.follows .mixedOrders = true) {f : FuncId} {fn : Func} (hf : P.funcs[f]? = some fn) (hn : (fn.name == "runtime.NumGoroutine") = false)
    {i1 x y b t te : Nat} {om oe : Oper} {c0 ca cb : Code} {u : TypeId} (hb : fn.body = some (.seq c0 (.seq (.seq (.region i1 #[om, oe] false) ca) cb))) (h1 : IsOp om (some y) (.move (.tmp x))) (h2 : IsOp oe (some b) (.binOp .eql t (.tmp y) (.const (.slice none 0 0)) u)) (hu : P.underlying t = some (.slice te))
    (hy : y < fn.ntmps) (hbb : b < fn.ntmps) (hw0 : wfCode fn.ntmps c0 = true) (hwa : wfCode fn.ntmps ca = true) (hwb : wfCode fn.ntmps cb = true) {rs : List ResultVar} (hrs : fn.results = rs.toArray) : GHolds P T f (nilG T ⟨c0, x, y, b, .seq ca cb, rs⟩ fn.ntmps) := by
  intro O hO hL _ wl args H out H' hg F φ w vs hI hr
  unfold nilG at hg
  split at hg
  rotate_left
  · cases hg
  rename_i hlen
  have henter : (callFunc f vs).run P w = .ok (.enter f vs) w := by
    have h1 : fn.name ≠ "runtime.NumGoroutine" := by simpa using hn
    simp [callFunc, hf, h1, hb]
  unfold Goes
  rw [henter]
  rw [IsOp.mk_ h1, IsOp.mk_ h2] at hb
  refine calls_of_wp_defers hf hb ?_
  cases hr0 : run T O wl c0 { env := fun i => (args[i]?).getD undefP, L := [], H := H } with
  | none => simp only [hr0] at hg; cases hg
  | some q =>
  obtain ⟨x0, s1⟩ := q
  simp only [hr0] at hg
  cases x0 <;> try (cases hg; done)
  simp only [nilK] at hg
  have hE0 := env_start (n := fn.ntmps) (H := H) hr hlen
  refine wp_seq (wp_mono (run_ok (P := P) (T := T) (O := O) (n := fn.ntmps) (W := fun d => wl ≤ d ∨ d = H.length) hT hO hL hm (wl := wl) c0 _ .normal s1 F φ _ w hw0 hr0 (fun d hd => hd) hI.push hE0) fun e a1 w1 ho => ?_)
  obtain ⟨F1, φ1, g1, g2, g3⟩ := ho
  obtain ⟨rfl, g3⟩ := g3.normal
  have hd1 : s1.depth = H.length := by
    have := g1.len
    simp only [St.stack, List.length_cons] at this
    unfold St.depth
    omega
  have hx := g3.eval (.tmp x)
  have hxs : ∃ fl xs, s1.env x = .lst fl xs := by
    cases hh : s1.env x <;> first | exact ⟨_, _, rfl⟩ | (rw [hh] at hg; cases hg)
  obtain ⟨fl, xs, hxs⟩ := hxs
  have hx' : Rep F1 φ1 (.lst fl xs) (a1.eval (.tmp x)) := by
    have : s1.eval (.tmp x) = s1.env x := rfl
    rw [this, hxs] at hx
    exact hx
  obtain ⟨ad, bb, o, cap, sz, cv, hv, _, _, had, _⟩ := rep_lst hx'
  have hgv : nilF T O wl ⟨c0, x, y, b, .seq ca cb, rs⟩ s1 ad.isNone = some (out, H') := by
    rw [hxs] at hg
    cases xs with
    | nil =>
      simp only [] at hg
      split at hg
      · rename_i heq
        cases ad with
        | none => exact heq.trans hg
        | some _ => exact hg
      · cases hg
    | cons p ps =>
      rw [had (by simp)]
      exact hg
  show Code.wp P _ _ a1 w1
  refine wp_seq (wp_seq (wp_region_list ?_))
  refine wpList_step fun K hK => ?_
  rw [if_pos (by simp [Region.wanted])]
  unfold Oper.wp
  have hmv : (execOp a1.eval ⟨some y, .move (.tmp x), om.type, om.pos, om.after, none⟩).run P w1 = .ok (.value (a1.eval (.tmp x))) w1 := by
    simp [execOp]
  rw [hmv, Oper.upon_value]
  have hEc : EnvOk fn.ntmps [] F1 φ1 ⟨upd s1.env y (s1.env x), s1.L, s1.H⟩ (a1.put (some y) (a1.eval (.tmp x))) := g3.put (dst := some y) (by rintro d ⟨⟩; exact hy) hx
  have hev : (a1.put (some y) (a1.eval (.tmp x))).eval (.tmp y) = a1.eval (.tmp x) := by
    have : y < a1.tmps.size := by rw [g3.size]; exact hy
    simp [Act.put, Act.eval, Array.getD_eq_getD_getElem?, Array.getElem?_setIfInBounds, this]
  generalize a1.put (some y) (a1.eval (.tmp x)) = a2 at hEc hev ⊢
  refine hK _ _ (wpList_step fun K2 hK2 => ?_)
  rw [if_pos (by simp [Region.wanted])]
  unfold Oper.wp
  have hq := Lib.run_eql_slice_nil (P := P) w1 t te ad xs.length cap 0 0 hu
  have hop : (execOp a2.eval ⟨some b, .binOp .eql t (.tmp y) (.const (.slice none 0 0)) u, oe.type, oe.pos, oe.after, none⟩).run P w1 = .ok (.value (.bool ad.isNone)) w1 := by
    have hc : a2.eval (.const (.slice none 0 0)) = .slice none 0 0 := rfl
    have hg0 : (eqGuard .eql t (.tmp y) (.const (.slice none 0 0)) (.slice ad xs.length cap) (.slice none 0 0)).run P w1 = .ok () w1 := rfl
    simp only [execOp, hev, hv, hc, Sem.run_bind, hg0, Result.andThen_ok, hq, Sem.run_pure]
  rw [hop, Oper.upon_value]
  have hE3 : EnvOk fn.ntmps [] F1 φ1 ⟨upd (upd s1.env y (s1.env x)) b (.bool ad.isNone), s1.L, s1.H⟩ (a2.put (some b) (.bool ad.isNone)) := hEc.put (dst := some b) (by rintro d ⟨⟩; exact hbb) (.bool' _)
  refine hK2 _ _ ?_
  show Exit.then _ _ .normal _ _
  unfold nilF at hgv
  simp only [] at hgv
  cases hr1 : run T O wl (.seq ca cb) ⟨upd (upd s1.env y (s1.env x)) b (.bool ad.isNone), s1.L, s1.H⟩ with
  | none => simp only [hr1] at hgv; cases hgv
  | some q =>
  obtain ⟨ex, s2⟩ := q
  simp only [hr1, bodyK] at hgv
  refine run_two (P := P) (T := T) (O := O) (n := fn.ntmps) (W := fun d => wl ≤ d ∨ d = H.length) hT hO hL hm hwa hwb hr1 (fun d hd => by
    have : (⟨upd (upd s1.env y (s1.env x)) b (.bool ad.isNone), s1.L, s1.H⟩ : St).depth = H.length := hd1
    rw [this] at hd
    exact hd) g2 hE3 fun e a3 w3 ho => ?_
  obtain ⟨F3, φ3, p1, p2, p3⟩ := ho
  have hA : Adv (fun d => wl ≤ d ∨ d = H.length) F φ ([] :: H) w F3 φ3 s2.stack w3 := g1.trans p1
  have done : (match readR T s2 rs with
        | some vs => leave (fun _ => false) 0 s2 (tupled vs)
        | none => none) = some (out, H') → EnvOk fn.ntmps [] F3 φ3 s2 a3 →
      Leaves P fn a3.tmps (fun e w' => ∃ F' φ', Adv (fun d => wl ≤ d) F φ H w F' φ' H' w' ∧ Inv F' φ' H' w' ∧ RelOut F' φ' out e) a3.defers .returning w3 := by
    intro hh hE'
    rw [hE'.defers]
    cases hrd : readR T s2 rs with
    | none => rw [hrd] at hh; cases hh
    | some ps =>
      rw [hrd] at hh
      obtain ⟨uv, hu1, hu2⟩ := results_ok (fn := fn) hT p2 hE' (vs := ps) (by rw [hrs]; exact hrd)
      exact ⟨uv, hu1, leave_ok p2 hA hI (fun d hd => hd) (.inr rfl) hu2 hh⟩
  cases ex with
  | normal =>
    obtain ⟨rfl, hE'⟩ := p3.normal
    exact done hgv hE'
  | ret =>
    cases e with
    | ret => exact done hgv p3
    | _ => exact p3.elim
  | exit id => cases hgv
  | panic p =>
    simp only [] at hgv
    split at hgv
    · rename_i hdat
      simp only [Option.some.injEq, Prod.mk.injEq] at hgv
      obtain ⟨rfl, rfl⟩ := hgv
      cases e with
      | panic c =>
        obtain ⟨q1, v, rfl, q2⟩ := p3
        show Leaves _ _ _ _ _ _ _
        rw [q1.defers]
        exact ⟨F3, φ3.under s2.H.length, hA.drop hI (fun d hd => hd), p2.drop, v, rfl, .of_data (q2.data_of hdat)⟩
      | _ => exact p3.elim
    · cases hgv
end Go.GL
