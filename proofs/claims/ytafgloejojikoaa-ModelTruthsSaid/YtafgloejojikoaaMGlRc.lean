/-
  GL, part Rc: functions that defer one closure which recovers.
-/
import Derived.Test.YtafgloejojikoaaMGlBk
import Derived.Recover
set_option linter.unusedSimpArgs false
set_option linter.unusedVariables false
/-! GL, part Rc: functions that defer one closure which recovers. -/
namespace Go.GL

/-- Such a function's parts: c0, then the closure (in tm: function k, what it captures), laid up; c1; of the closure: what recover tells goes to r1 and r2; c2. -/
structure Try where
  c0 : Code
  tm : Nat
  k : FuncId
  caps : List Operand
  c1 : Code
  results : List ResultVar
  r1 : Nat
  r2 : Nat
  c2 : Code

def recovered : Ex → Option PV
  | .normal | .ret => some .nilIface
  | .panic (.iface t v) => some (.iface t v)
  | _ => none

def tryEnd (T : Tab) (rs : List ResultVar) (env : Nat → PV) : Option (Ex × St) → Option (Out × Heap)
  | some (.normal, s3) | some (.ret, s3) => match s3.H with
    | L :: H => match readR T ⟨env, L, H⟩ rs with
      | some vs => leave (fun _ => false) 0 ⟨env, L, H⟩ (tupled vs)
      | none => none
    | [] => none
  | _ => none

def tryMid (T : Tab) (O : Orc) (wl : Nat) (y : Try) (cs : List PV) : Option (Ex × St) → Option (Out × Heap)
  | some (ex, s2) => match recovered ex with
    | some r => tryEnd T y.results s2.env (run T O wl y.c2 ⟨upd (upd (fun i => (cs[i]?).getD undefP) y.r1 r) y.r2 r, [], s2.L :: s2.H⟩)
    | none => none
  | none => none

def tryBegin (T : Tab) (O : Orc) (wl : Nat) (y : Try) : Option (Ex × St) → Option (Out × Heap)
  | some (.normal, s1) => tryMid T O wl y (y.caps.map s1.eval) (run T O wl y.c1 ⟨upd s1.env y.tm (.func (.func y.k) [] (y.caps.map s1.eval)), s1.L, s1.H⟩)
  | _ => none

def tryG (T : Tab) (y : Try) : Orc → Nat → List PV → Heap → Option (Out × Heap) := fun O wl args H =>
  tryBegin T O wl y (run T O wl y.c0 { env := fun i => (args[i]?).getD undefP, L := [], H := H })

theorem tryG_le {T : Tab} {y : Try} {A B : Orc} (h : Orc.le A B) {wl args H r} (e : tryG T y A wl args H = some r) : tryG T y B wl args H = some r := by
  unfold tryG at *
  cases h0 : run T A wl y.c0 { env := fun i => (args[i]?).getD undefP, L := [], H := H } with
  | none => rw [h0] at e; cases e
  | some q =>
    rw [h0] at e
    rw [run_le h _ _ h0]
    obtain ⟨x, s1⟩ := q
    cases x <;> try cases e
    simp only [tryBegin] at *
    cases h1 : run T A wl y.c1 ⟨upd s1.env y.tm (.func (.func y.k) [] (y.caps.map s1.eval)), s1.L, s1.H⟩ with
    | none => rw [h1] at e; cases e
    | some q =>
      rw [h1] at e
      rw [run_le h _ _ h1]
      obtain ⟨x, s2⟩ := q
      simp only [tryMid] at *
      cases hr : recovered x with
      | none => rw [hr] at e; cases e
      | some r0 =>
        rw [hr] at e
        simp only [] at *
        cases h2 : run T A wl y.c2 ⟨upd (upd (fun i => ((y.caps.map s1.eval)[i]?).getD undefP) y.r1 r0) y.r2 r0, [], s2.L :: s2.H⟩ with
        | none => rw [h2] at e; cases e
        | some q => rw [h2] at e; rw [run_le h _ _ h2]; exact e

theorem tryG_lim {T : Tab} {y : Try} {C : Nat → Orc} {E : Orc} (h : Orc.Lim C E) {wl args H r} (e : tryG T y E wl args H = some r) : ∃ n, tryG T y (C n) wl args H = some r := by
  unfold tryG at *
  cases h0 : run T E wl y.c0 { env := fun i => (args[i]?).getD undefP, L := [], H := H } with
  | none => rw [h0] at e; cases e
  | some q =>
    obtain ⟨n0, e0⟩ := run_lim h _ _ h0
    rw [h0] at e
    obtain ⟨x, s1⟩ := q
    cases x <;> try cases e
    simp only [tryBegin] at e
    cases h1 : run T E wl y.c1 ⟨upd s1.env y.tm (.func (.func y.k) [] (y.caps.map s1.eval)), s1.L, s1.H⟩ with
    | none => rw [h1] at e; cases e
    | some q =>
      obtain ⟨n1, e1⟩ := run_lim h _ _ h1
      rw [h1] at e
      obtain ⟨x, s2⟩ := q
      simp only [tryMid] at e
      cases hr : recovered x with
      | none => rw [hr] at e; cases e
      | some r0 =>
        rw [hr] at e
        simp only [] at e
        cases h2 : run T E wl y.c2 ⟨upd (upd (fun i => ((y.caps.map s1.eval)[i]?).getD undefP) y.r1 r0) y.r2 r0, [], s2.L :: s2.H⟩ with
        | none => rw [h2] at e; cases e
        | some q =>
          obtain ⟨n2, e2⟩ := run_lim h _ _ h2
          rw [h2] at e
          have l0 := h.mono (n := n0) (m := max n0 (max n1 n2)) (Nat.le_max_left _ _)
          have l1 := h.mono (n := n1) (m := max n0 (max n1 n2)) (Nat.le_trans (Nat.le_max_left _ _) (Nat.le_max_right _ _))
          have l2 := h.mono (n := n2) (m := max n0 (max n1 n2)) (Nat.le_trans (Nat.le_max_right _ _) (Nat.le_max_right _ _))
          refine ⟨max n0 (max n1 n2), ?_⟩
          rw [run_le l0 _ _ e0]
          simp only [tryBegin]
          rw [run_le l1 _ _ e1]
          simp only [tryMid, hr]
          rw [run_le l2 _ _ e2]
          exact e

section
variable {P : Program} {T : Tab}

theorem Inv.pop {F : FM} {φ : PM} {L : List Blk} {H : Heap} {w : World} (h : Inv F φ (L :: H) w) : Inv F (φ.under H.length) H w := h.drop

theorem recoverD_back (c : Frame) (cs : List Frame) (h : c.mode = .returning) : recoverD (c :: cs) = none := by simp [recoverD, h]
theorem recoverD_panic (c : Frame) (cs : List Frame) (v : Value) (h : c.mode = .panicking [{ v, recovered := false }]) : recoverD (c :: cs) = some (v, { c with mode := .panicking [{ v, recovered := true }] } :: cs) := by simp [recoverD, h]

theorem exec_recover {ρ : Operand → Value} {dst ty pos after gd tys} (w : World) : (execOp ρ ⟨dst, .call ⟨.builtin .recover, #[], tys⟩, ty, pos, after, gd⟩).run P w = .ok .recover w := by
  simp [execOp, resolve, invoke, builtin]

/-- The closure's call, the frame below leaving by u: recover tells r. -/
theorem closure_calls (hT : TOk P T) {O : Orc} (hO : CallOk P O) (hL : LoopOk P O) (hm : P.follows .mixedOrders = true) {k : FuncId} {fk : Func} (hP : P.funcs[k]? = some fk) {i0 r1 r2 : Nat} {o1 o2 : Oper} {c2 : Code} {tys : Array TypeId}
    (hb : fk.body = some (.seq (.region i0 #[o1, o2] false) c2)) (h1 : IsOp o1 (some r1) (.call ⟨.builtin .recover, #[], tys⟩)) (h2 : IsOp o2 (some r2) (.assign (.tmp r1))) (hr1 : r1 < fk.ntmps) (hr2 : r2 < fk.ntmps) (hne : r1 ≠ r2) (hres : fk.results = #[]) (hwf : wfCode fk.ntmps c2 = true)
    {wl : Nat} {cs : List PV} {us : Array Value} {S : Heap} {r : PV} {ex : Ex} {s3 : St} (hrun : run T O wl c2 ⟨upd (upd (fun i => (cs[i]?).getD undefP) r1 r) r2 r, [], S⟩ = some (ex, s3)) (hx : ex = .normal ∨ ex = .ret) {W : Nat → Prop} (hW : ∀ d, wl ≤ d ∨ d = S.length → W d)
    {F : FM} {φ : PM} {w : World} (hI : Inv F φ S w) (hreps : Reps F φ cs us.toList) (hlen : cs.length ≤ fk.ntmps) {u u' : FrameMode} {rv : Value} (hrv : Rep F φ r rv)
    (hu : (u = .returning ∧ u' = .returning ∧ rv = .nilIface) ∨ ∃ v, u = .panicking [{ v, recovered := false }] ∧ u' = .panicking [{ v, recovered := true }] ∧ rv = v) :
    CallsD P k us u w fun e u2 w' => (∃ v, e = .returned v) ∧ u2 = u' ∧ ∃ F' φ', Adv W F φ ([] :: S) w F' φ' s3.stack w' ∧ Inv F' φ' s3.stack w' := by
  refine callsD_of_wpS hP hb fun c₀ cs₀ hu₀ => ?_
  rw [IsOp.mk_ h1, IsOp.mk_ h2]
  have hE0 := env_start (n := fk.ntmps) (H := S) hreps hlen
  have hE1 := hE0.put (dst := some r1) (by rintro d ⟨⟩; exact hr1) hrv
  have hE2 := hE1.put (dst := some r2) (by rintro d ⟨⟩; exact hr2) hrv
  have hEr : ∀ a : Act, EnvOk fk.ntmps [] F φ ({ env := fun i => (cs[i]?).getD undefP, L := [], H := S } : St) a → (a.put (some r1) rv).eval (.tmp r1) = rv := by
    intro a ha
    have hs : r1 < a.tmps.size := by rw [ha.size]; exact hr1
    simp [Act.put, Act.eval, Array.getD_eq_getD_getElem?, Array.getElem?_setIfInBounds, hs]
  have hfin := run_ok (P := P) (T := T) (O := O) (n := fk.ntmps) (W := W) hT hO hL hm (wl := wl) c2 _ ex s3 F φ _ w hwf hrun (fun d hd => hW d hd) hI.push hE2
  have done : ∀ cs1, cs1 = { c₀ with mode := u' } :: cs₀ → c2.wpS P (bodyPostS P fk c₀ cs₀ fun e u2 w' => (∃ v, e = .returned v) ∧ u2 = u' ∧ ∃ F' φ', Adv W F φ ([] :: S) w F' φ' s3.stack w' ∧ Inv F' φ' s3.stack w')
      (((({ tmps := us ++ Array.replicate (fk.ntmps - us.size) undef, defers := [] } : Act).put (some r1) rv).put (some r2) rv)) cs1 w := by
    rintro cs1 rfl
    refine wpS_of_wp (wp_mono hfin fun e a' w' ho => ?_)
    obtain ⟨F', φ', g1, g2, g3⟩ := ho
    have fin : EnvOk fk.ntmps [] F' φ' s3 a' → a'.defers = [] ∧ ∃ u2, ({ c₀ with mode := u' } : Frame) :: cs₀ = { c₀ with mode := u2 } :: cs₀ ∧ ∃ v, (results fk a'.tmps).run P w' = .ok v w' ∧ ((∃ v', Ending.returned v = .returned v') ∧ u2 = u' ∧ ∃ F' φ', Adv W F φ ([] :: S) w F' φ' s3.stack w' ∧ Inv F' φ' s3.stack w') :=
      fun hE => ⟨hE.defers, u', rfl, _, results_none hres _ _ _, ⟨_, rfl⟩, rfl, F', φ', g1, g2⟩
    rcases hx with rfl | rfl
    · obtain ⟨rfl, hE⟩ := g3.normal
      exact fin hE
    · cases e with
      | ret => exact fin g3
      | _ => exact g3.elim
  refine wpS_seq (wpS_region ?_)
  have hw : ∀ (o : Oper) (a : Act) (ops : Array Oper), o.guard = none → Region.wanted o (yielded ops a.tmps) = true := fun o a ops h => by simp [Region.wanted, h]
  have hasg : ∀ (a : Act) (w : World), (execOp a.eval ⟨some r2, .assign (.tmp r1), o2.type, o2.pos, o2.after, none⟩).run P w = .ok (.value (a.eval (.tmp r1))) w := fun a w => by simp [execOp]
  rcases hu with ⟨rfl, rfl, rfl⟩ | ⟨v, rfl, rfl, rfl⟩
  · simp only [List.size_toArray, List.length_cons, List.length_nil, List.range, List.range.loop, wpOpsS, List.getElem?_toArray, List.getElem?_cons_zero, List.getElem?_cons_succ, hw, exec_recover, recoverD_back _ _ hu₀, hasg, if_true, Oper.upon_value]
    rw [hEr _ hE0]
    refine done _ ?_
    rw [← hu₀]
  · simp only [List.size_toArray, List.length_cons, List.length_nil, List.range, List.range.loop, wpOpsS, List.getElem?_toArray, List.getElem?_cons_zero, List.getElem?_cons_succ, hw, exec_recover, recoverD_panic _ _ _ hu₀, hasg, if_true, Oper.upon_value]
    rw [hEr _ hE0]
    exact done _ rfl

theorem tryG_ok (hT : TOk P T) (hm : P.follows .mixedOrders = true) {f k : FuncId} {fn fk : Func} (hf : P.funcs[f]? = some fn) (hn : (fn.name == "runtime.NumGoroutine") = false) (hk : P.funcs[k]? = some fk) (hkn : (fk.name == "runtime.NumGoroutine") = false)
    {i1 tm : Nat} {om od : Oper} {c0 c1 : Code} {caps : List Operand} (hb : fn.body = some (.seq c0 (.seq (.region i1 #[om, od] false) c1))) (h1 : IsOp om (some tm) (.makeFunc (.func k) #[] caps.toArray)) (h2 : IsOp od none (.defer ⟨.value (.tmp tm), #[], #[]⟩)) (htm : tm < fn.ntmps) (hw0 : wfCode fn.ntmps c0 = true) (hw1 : wfCode fn.ntmps c1 = true)
    {i0 r1 r2 : Nat} {o1 o2 : Oper} {c2 : Code} {tys : Array TypeId} (kb : fk.body = some (.seq (.region i0 #[o1, o2] false) c2)) (k1 : IsOp o1 (some r1) (.call ⟨.builtin .recover, #[], tys⟩)) (k2 : IsOp o2 (some r2) (.assign (.tmp r1))) (hr1 : r1 < fk.ntmps) (hr2 : r2 < fk.ntmps) (hne : r1 ≠ r2) (hres : fk.results = #[]) (hw2 : wfCode fk.ntmps c2 = true) (hcl : caps.length ≤ fk.ntmps)
    {rs : List ResultVar} (hrs : fn.results = rs.toArray) {O : Orc} (hO : CallOk P O) (hL : LoopOk P O) {wl : Nat} {args : List PV} {H H' : Heap} {out : Out} (hlen : args.length ≤ fn.ntmps) (hwl : wl ≤ H.length)
    (hg : tryG T ⟨c0, tm, k, caps, c1, rs, r1, r2, c2⟩ O wl args H = some (out, H')) {F : FM} {φ : PM} {w : World} {vs : Array Value} (hI : Inv F φ H w) (hr : Reps F φ args vs.toList) :
    Goes P f vs w fun e w' => ∃ F' φ', Adv (fun d => wl ≤ d) F φ H w F' φ' H' w' ∧ Inv F' φ' H' w' ∧ RelOut F' φ' out e := by
  have henter : (callFunc f vs).run P w = .ok (.enter f vs) w := by
    have h1 : fn.name ≠ "runtime.NumGoroutine" := by simpa using hn
    simp [callFunc, hf, h1, hb]
  have henterk : ∀ (us : Array Value) (w : World), (callFunc k us).run P w = .ok (.enter k us) w := fun us w => by
    have h1 : fk.name ≠ "runtime.NumGoroutine" := by simpa using hkn
    simp [callFunc, hk, h1, kb]
  unfold Goes
  rw [henter]
  rw [IsOp.mk_ h1, IsOp.mk_ h2] at hb
  refine calls_of_wp_defers hf hb ?_
  unfold tryG at hg
  cases hr0 : run T O wl c0 { env := fun i => (args[i]?).getD undefP, L := [], H := H } with
  | none => simp only [hr0] at hg; cases hg
  | some q =>
  obtain ⟨x0, s1⟩ := q
  simp only [hr0] at hg
  cases x0 <;> try (cases hg; done)
  simp only [tryBegin] at hg
  have hE0 := env_start (n := fn.ntmps) (H := H) hr hlen
  have hWf : ∀ d, wl ≤ d ∨ d = H.length → (fun d => wl ≤ d ∨ d = H.length) d := fun d hd => hd
  refine wp_seq (wp_mono (run_ok (P := P) (T := T) (O := O) (n := fn.ntmps) (W := fun d => wl ≤ d ∨ d = H.length) hT hO hL hm (wl := wl) c0 _ .normal s1 F φ _ w hw0 hr0 hWf hI.push hE0) fun e a1 w1 ho => ?_)
  obtain ⟨F1, φ1, g1, g2, g3⟩ := ho
  obtain ⟨rfl, g3⟩ := g3.normal
  have hd1 : s1.depth = H.length := by
    have := g1.len
    simp only [St.stack, List.length_cons] at this
    unfold St.depth
    omega
  -- the closure, laid up
  have hcaps : Reps F1 φ1 (caps.map s1.eval) (caps.map a1.eval) := ⟨by simp, fun j c v hc hv => by
    rw [List.getElem?_map] at hc hv
    cases hj : caps[j]? with
    | none => rw [hj] at hc; cases hc
    | some x =>
      rw [hj] at hc hv
      simp only [Option.map_some, Option.some.injEq] at hc hv
      subst hc hv
      exact g3.eval x⟩
  show Code.wp P _ _ a1 w1
  refine wp_seq (wp_region_list ?_)
  refine wpList_step fun K hK => ?_
  rw [if_pos (by simp [Region.wanted])]
  unfold Oper.wp
  have hmk : (execOp a1.eval ⟨some tm, .makeFunc (.func k) #[] caps.toArray, om.type, om.pos, om.after, none⟩).run P w1 = .ok (.value (.func (.func k) #[] (caps.map a1.eval).toArray)) w1 := by
    simp [execOp, Instr.makeFunc]
  rw [hmk, Oper.upon_value]
  have hEc : EnvOk fn.ntmps [] F1 φ1 ⟨upd s1.env tm (.func (.func k) [] (caps.map s1.eval)), s1.L, s1.H⟩ (a1.put (some tm) (.func (.func k) #[] (caps.map a1.eval).toArray)) :=
    g3.put (dst := some tm) (by rintro d ⟨⟩; exact htm) (.func _ [] _ #[] _ rfl (by simp) (by simp) (fun j c v hc hv => hcaps.2 j c v hc (by simpa using hv)))
  generalize ha2 : a1.put (some tm) (.func (.func k) #[] (caps.map a1.eval).toArray) = a2 at hEc ⊢
  have hev : a2.eval (.tmp tm) = .func (.func k) #[] (caps.map a1.eval).toArray := by
    rw [← ha2]
    have : tm < a1.tmps.size := by rw [g3.size]; exact htm
    simp [Act.put, Act.eval, Array.getD_eq_getD_getElem?, Array.getElem?_setIfInBounds, this]
  refine hK _ _ (wpList_step fun K2 hK2 => ?_)
  rw [if_pos (by simp [Region.wanted])]
  unfold Oper.wp
  have hdf : (execOp a2.eval ⟨none, .defer ⟨.value (.tmp tm), #[], #[]⟩, od.type, od.pos, od.after, none⟩).run P w1 = .ok (.defer { target := .fn (.func k) (caps.map a1.eval).toArray, args := #[] }) w1 := by
    simp [execOp, resolve, Deferred.ofValue, hev]
  rw [hdf, Oper.upon_defer]
  refine hK2 _ _ ?_
  show Exit.then _ _ .normal _ _
  have hE3 : EnvOk fn.ntmps [{ target := .fn (.func k) (caps.map a1.eval).toArray, args := #[] }] F1 φ1 ⟨upd s1.env tm (.func (.func k) [] (caps.map s1.eval)), s1.L, s1.H⟩ (({ a2 with defers := { target := .fn (.func k) (caps.map a1.eval).toArray, args := #[] } :: a2.defers } : Act).put none undef) :=
    ⟨by simp [Act.put, hEc.defers], hEc.size, hEc.rep⟩
  cases hr1' : run T O wl c1 ⟨upd s1.env tm (.func (.func k) [] (caps.map s1.eval)), s1.L, s1.H⟩ with
  | none => simp only [hr1'] at hg; cases hg
  | some q =>
  obtain ⟨ex, s2⟩ := q
  simp only [hr1', tryMid] at hg
  refine wp_mono (run_ok (P := P) (T := T) (O := O) (n := fn.ntmps) (W := fun d => wl ≤ d ∨ d = H.length) hT hO hL hm (wl := wl) c1 _ ex s2 F1 φ1 _ w1 hw1 hr1' (fun d hd => by
    have : (⟨upd s1.env tm (.func (.func k) [] (caps.map s1.eval)), s1.L, s1.H⟩ : St).depth = H.length := hd1
    rw [this] at hd
    exact hd) g2 hE3) fun e a3 w3 ho => ?_
  obtain ⟨F3, φ3, p1, p2, p3⟩ := ho
  cases hrec : recovered ex with
  | none => simp only [hrec] at hg; cases hg
  | some r =>
  simp only [hrec] at hg
  cases hr2' : run T O wl c2 ⟨upd (upd (fun i => ((caps.map s1.eval)[i]?).getD undefP) r1 r) r2 r, [], s2.L :: s2.H⟩ with
  | none => simp only [hr2'] at hg; cases hg
  | some q =>
  obtain ⟨ex3, s3⟩ := q
  simp only [hr2'] at hg
  have hx3 : (ex3 = .normal ∨ ex3 = .ret) ∧ ∃ L4 H4 ps, s3.H = L4 :: H4 ∧ readR T ⟨s2.env, L4, H4⟩ rs = some ps ∧ leave (fun _ => false) 0 ⟨s2.env, L4, H4⟩ (tupled ps) = some (out, H') := by
    unfold tryEnd at hg
    have key : ∀ s4 : St, (match s4.H with
        | L :: H => match readR T ⟨s2.env, L, H⟩ rs with
          | some vs => leave (fun _ => false) 0 ⟨s2.env, L, H⟩ (tupled vs)
          | none => none
        | [] => none) = some (out, H') → ∃ L4 H4 ps, s4.H = L4 :: H4 ∧ readR T ⟨s2.env, L4, H4⟩ rs = some ps ∧ leave (fun _ => false) 0 ⟨s2.env, L4, H4⟩ (tupled ps) = some (out, H') := by
      intro s4 hh
      cases hH : s4.H with
      | nil => rw [hH] at hh; cases hh
      | cons L4 H4 =>
        rw [hH] at hh
        simp only [] at hh
        cases hR : readR T ⟨s2.env, L4, H4⟩ rs with
        | none => rw [hR] at hh; cases hh
        | some ps => rw [hR] at hh; exact ⟨L4, H4, ps, rfl, hR, hh⟩
    cases ex3 with
    | normal => exact ⟨.inl rfl, key s3 hg⟩
    | ret => exact ⟨.inr rfl, key s3 hg⟩
    | _ => cases hg
  obtain ⟨hx3, L4, H4, ps, hH4, hrd, hlv⟩ := hx3
  have hlen2 : (s2.L :: s2.H).length = H.length + 1 := by
    have h1 := g1.len
    have h2 := p1.len
    simp only [St.stack] at h1 h2
    rw [h2]
    exact h1
  have hcl3 : Reps F3 φ3 (caps.map s1.eval) (caps.map a1.eval).toArray.toList := ⟨by simp, fun j c v hc hv => (hcaps.2 j c v hc (by simpa using hv)).mono p1.fm p1.pm⟩
  -- the closure's call, and what lies behind it
  have after : ∀ (u : FrameMode) (rv : Value) (u' : FrameMode), EnvOk fn.ntmps [{ target := .fn (.func k) (caps.map a1.eval).toArray, args := #[] }] F3 φ3 s2 a3 → Rep F3 φ3 r rv → u ≠ .run →
      ((u = .returning ∧ u' = .returning ∧ rv = .nilIface) ∨ ∃ v, u = .panicking [{ v, recovered := false }] ∧ u' = .panicking [{ v, recovered := true }] ∧ rv = v) →
      Leaves P fn a3.tmps (fun e w' => ∃ F' φ', Adv (fun d => wl ≤ d) F φ H w F' φ' H' w' ∧ Inv F' φ' H' w' ∧ RelOut F' φ' out e) a3.defers u w3 := by
    intro u rv u' hE hrv hrun hu
    rw [hE.defers]
    refine leaves_cons (f := k) (args := #[] ++ (caps.map a1.eval).toArray) hrun (by simp [invoke, henterk]) ?_
    have hcc := closure_calls (P := P) (T := T) (W := fun d => wl ≤ d ∨ d = H.length ∨ d = H.length + 1) hT hO hL hm hk kb k1 k2 hr1 hr2 hne hres hw2 (us := #[] ++ (caps.map a1.eval).toArray) hr2' hx3 (fun d hd => by rw [hlen2] at hd; omega) p2 (by simpa using hcl3) (by simpa using hcl) hrv hu
    refine CallsD.mono hcc ?_
    rintro e u2 w4 ⟨⟨v, rfl⟩, rfl, F4, φ4, q1, q2⟩
    have hset : settle u2 = .returning := by
      rcases hu with ⟨_, rfl, _⟩ | ⟨v, _, rfl, _⟩
      · rfl
      · simp [settle]
    show Leaves _ _ _ _ _ _ _
    rw [hset]
    have hst : s3.stack = s3.L :: L4 :: H4 := by simp [St.stack, hH4]
    rw [hst] at q1 q2
    have hl4 : (L4 :: H4).length = H.length + 1 := by
      have := q1.len
      simp only [List.length_cons] at this hlen2 ⊢
      omega
    have i4 := q2.drop
    -- what has been since the call began
    have hA : Adv (fun d => wl ≤ d ∨ d = H.length) F φ ([] :: H) w F4 (φ4.under (L4 :: H4).length) (L4 :: H4) w4 := by
      have b1 : Adv (fun d => wl ≤ d ∨ d = H.length ∨ d = H.length + 1) F3 φ3 ([] :: s2.L :: s2.H) w3 F4 φ4 (s3.L :: L4 :: H4) w4 := q1
      have b2 : Adv (fun d => wl ≤ d ∨ d = H.length) F3 φ3 (s2.L :: s2.H) w3 F4 (φ4.under (L4 :: H4).length) (L4 :: H4) w4 := by
        have b3 := b1.drop (wl := min wl H.length) p2 (fun d hd => by
          simp only [List.length_cons] at hlen2 ⊢
          omega)
        exact b3.weak fun d hd => by omega
      exact (g1.trans (p1.weak fun d hd => hd)).trans b2
    have hE5 : EnvOk fn.ntmps [{ target := .fn (.func k) (caps.map a1.eval).toArray, args := #[] }] F4 (φ4.under (L4 :: H4).length) ⟨s2.env, L4, H4⟩ a3 := by
      have b1 := q1.drop (wl := min wl H.length) p2 (fun d hd => by
          simp only [List.length_cons] at hlen2 ⊢
          omega)
      exact hE.mono b1.fm b1.pm rfl
    obtain ⟨uv, hu1, hu2⟩ := results_ok (fn := fn) (s := ⟨s2.env, L4, H4⟩) hT i4 hE5 (vs := ps) (by rw [hrs]; exact hrd)
    exact ⟨uv, hu1, leave_ok (s := ⟨s2.env, L4, H4⟩) i4 hA hI (fun d hd => hd) (.inr rfl) hu2 hlv⟩
  cases ex with
  | normal =>
    obtain ⟨rfl, hE⟩ := p3.normal
    simp only [recovered, Option.some.injEq] at hrec
    subst hrec
    exact after .returning .nilIface .returning hE (.data _ _ rfl .nilIface) (by simp) (.inl ⟨rfl, rfl, rfl⟩)
  | ret =>
    simp only [recovered, Option.some.injEq] at hrec
    subst hrec
    cases e with
    | ret => exact after .returning .nilIface .returning p3 (.data _ _ rfl .nilIface) (by simp) (.inl ⟨rfl, rfl, rfl⟩)
    | _ => exact p3.elim
  | exit id => cases hrec
  | panic pv =>
    cases e with
    | panic ch =>
      obtain ⟨hE, v, rfl, hv⟩ := p3
      have hpr : r = pv := by
        cases pv <;> simp [recovered] at hrec
        exact hrec.symm
      subst hpr
      exact after _ v _ hE hv (by simp) (.inr ⟨v, rfl, rfl, rfl⟩)
    | _ => exact p3.elim
end
end Go.GL
