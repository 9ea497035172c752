/-
  GL, part Bk: the library's function that tells a row's elements from its end (slices.Backward): its closure, and itself, whatever the types.
-/
import Derived.Test.YtafgloejojikoaaMGlS
import Derived.Test.YtafgloejojikoaaMGlE
import Derived.IntWalk
set_option linter.unusedSimpArgs false
set_option linter.unusedVariables false
/-! GL, part Bk: the library's function that tells a row's elements from its end (slices.Backward): its closure, and itself, whatever the types. -/
namespace Go.GL

def isPure : Op → Bool
  | .store .. => false
  | .slice .. => false
  | .insert .. => false
  | .mapUpdate .. => false
  | .call c => match c.callee with
    | .value _ => false
    | .builtin .append => false
    | _ => true
  | op => !isMake op

theorem opRun_pure {T : Tab} {O : Orc} {wl : Nat} {o : Oper} {s : St} (h : isPure o.op = true) : opRun T O wl o s = (pureOp T o s s.stack).map fun r => (r, s) := by
  unfold opRun
  split
  · rename_i hh; rw [hh] at h; cases h
  · rename_i hh; rw [hh] at h; cases h
  · rename_i hh; rw [hh] at h; cases h
  · rename_i hh; rw [hh] at h; cases h
  · rename_i hh; rw [hh] at h; cases h
  · rename_i hh; rw [hh] at h; cases h
  · rename_i hh0 hh1 hh2 hh3
    have : isMake o.op = false := by
      unfold isPure at h
      split at h
      · cases h
      · cases h
      · cases h
      · cases h
      · rename_i heq; rw [heq]; rfl
      · simpa using h
    rw [this]
    rfl

section
variable {P : Program} {T : Tab} {n m : Nat} {ds : List Deferred} {F : FM} {φ : PM} {w : World}

theorem wpIn_wide_of_wp {o : Oper} {a : Act} {K : Act → World → Prop} {Q : Exit → Act → World → Prop} (h : o.wp P a w K Q) : o.wpIn Fence.wide m P a w K Q := by
  refine ⟨fun _ _ => trivial, ?_⟩
  rw [show Fence.wide.round = none from rfl, Oper.semAt_none]
  unfold Oper.wp at h
  generalize (execOp a.eval o).run P w = r at h
  cases r with
  | halt x w' =>
    cases x <;> first | exact h | exact h.elim
  | ok x w' =>
    cases x with
    | enter f args => exact ⟨fun e => by simp [Fence.wide] at e, (callsIn_wide (n := m - 1)).2 h⟩
    | row r args =>
      refine ⟨fun e => by simp [Fence.wide] at e, fun c cs _ => ?_⟩
      obtain ⟨v, w'', h1, h2⟩ := h c cs
      exact ⟨v, w'', h1, stepsIn_wide.2 h2⟩
    | _ => first | exact h | exact h.elim

theorem pure_list (hT : TOk P T) {ops : Array Oper} (hwf : wfOps n ops = true) {Q : Exit → Act → World → Prop} (rest : List Oper) {s' : St} : ∀ (os : List Oper) (s : St) (a : Act), Inv F φ s.stack w → runOps T Orc.bot 0 ops os s = some (.normal, s') → (∀ o ∈ os, isPure o.op = true ∧ ∀ d, o.dst = some d → d < n) →
    EnvOk n ds F φ s a → (∀ a', EnvOk n ds F φ s' a' → wpListIn Fence.wide m P ops Q rest a' w) → wpListIn Fence.wide m P ops Q (os ++ rest) a w
  | [], s, a, hI, h, hp, hE, hk => by
    simp only [runOps, Option.some.injEq, Prod.mk.injEq] at h
    obtain ⟨_, rfl⟩ := h
    exact hk a hE
  | o :: os, s, a, hI, h, hp, hE, hk => by
    simp only [runOps] at h
    refine wpListIn_step fun K hK => ?_
    have next : ∀ (v : PV) (u : Value), runOps T Orc.bot 0 ops os (s.put o.dst v) = some (.normal, s') → Rep F φ v u → K (a.put o.dst u) w := by
      intro v u h1 h2
      have p3 := s.put_stack o.dst v
      exact hK _ _ (pure_list hT hwf rest os (s.put o.dst v) _ (by rw [p3.1]; exact hI) h1 (fun o ho => hp o (by simp [ho])) (hE.put (hp o (by simp)).2 h2) hk)
    cases hw : wantedP ops o s with
    | none =>
      have : stepOp T Orc.bot 0 ops o s = none := by unfold stepOp; rw [hw]
      rw [this] at h
      cases h
    | some b =>
      rw [wantedP_ok hE hwf hw]
      cases b with
      | false =>
        have : stepOp T Orc.bot 0 ops o s = some (.val undefP, s) := by unfold stepOp; rw [hw]; rfl
        rw [this] at h
        exact ⟨fun _ _ => trivial, next _ undef h (rep_undef _ _)⟩
      | true =>
        have : stepOp T Orc.bot 0 ops o s = opRun T Orc.bot 0 o s := by unfold stepOp; rw [hw]; rfl
        rw [this, opRun_pure (hp o (by simp)).1] at h
        cases hop : pureOp T o s s.stack with
        | none => rw [hop] at h; cases h
        | some r =>
          rw [hop] at h
          have ht := pureOp_ok hT hI (ρ := a.eval) hE.eval hop
          cases r with
          | val v =>
            obtain ⟨u, hu, hr⟩ := ht
            refine wpIn_wide_of_wp ?_
            unfold Oper.wp
            rw [hu]
            exact next v u h hr
          | panic v => cases h

theorem inv_none (h : ∀ b o v, F b o = some v → w.cell? ⟨b, o, none⟩ = some v) : Inv F (fun _ _ _ => none) [[]] w :=
  ⟨h, fun d k n x h => (by cases h), fun d k B h => (by
    have := at_down (H := []) h
    exact absurd this.2 (by simp)), fun d k B d' k' B' b h => (by
    have := at_down (H := []) h
    exact absurd this.2 (by simp)), fun d k live sz xs n x h => (by
    have := at_down (H := []) h
    exact absurd this.2 (by simp))⟩

/-- An operation, but for what it says of its place. -/
def IsOp (o : Oper) (dst : Option Nat) (op : Op) : Prop := o.dst = dst ∧ o.op = op ∧ o.guard = none

theorem IsOp.mk_ {o : Oper} {dst : Option Nat} {op : Op} (h : IsOp o dst op) : o = ⟨dst, op, o.type, o.pos, o.after, none⟩ := by
  obtain ⟨h1, h2, h3⟩ := h
  cases o
  simp only at h1 h2 h3
  subst h1 h2 h3
  rfl

theorem rep_func0 {f : Fn} {v : Value} (h : Rep F φ (.func f [] []) v) : v = .func f #[] #[] := by
  cases h with
  | data p v hl h => simp [isLeaf] at hl
  | func f fs cs vs us hl hm h1 h2 =>
    simp only [List.length_nil, Array.size_eq_zero_iff] at hl hm
    subst hl hm
    rfl

theorem RepD.isData {p : PV} {v : Value} (h : RepD F p v) : isData p = true := by
  induction h with
  | iface t p v h ih => simpa [Go.GL.isData] using ih
  | agg cs vs hl h1 h ih =>
    simp only [Go.GL.isData, isDataL_iff]
    intro c hc
    obtain ⟨j, hj⟩ := List.getElem?_of_mem hc
    have hlt := (List.getElem?_eq_some_iff.1 hj).1
    exact ih j c vs[j] hj (by simp [hl, hlt])
  | _ => rfl

attribute [local simp] upd St.put St.eval pureOp loadP lenP binOpP indexP pickE ofV

theorem rows_back (hT : TOk P T) {gf : FuncId} {fn : Func} (hf : P.funcs[gf]? = some fn) (hn : (fn.name == "runtime.NumGoroutine") = false) (hnt : fn.ntmps = 19) (hres : fn.results = #[]) {ts te ti : Nat} {tsi tei : TI} (hts : T ts = some tsi) (htsd : tsi.td = .slice te) (hte : T te = some tei)
    {i0 i1 i2 i3 b0 b1 : Nat} {o1 o2 o3 o4 o5 o6 o7 o8 o9 o10 o11 o12 o13 o14 o15 o16 o17 : Oper}
    (hb : fn.body = some (.seq (.region i0 #[o1, o2, o3, o4] false) (.block b0 (.loop (.seq (.seq (.region i1 #[o5, o6] false) (.cond (.tmp 8) .skip (.exit b0))) (.seq (.block b1 (.seq (.region i2 #[o7, o8, o9, o10, o11, o12, o13, o14] false) (.cond (.tmp 18) .ret .skip))) (.region i3 #[o15, o16, o17] false)))))))
    (h1 : IsOp o1 (some 4) (.load ts (.tmp 1))) (h2 : IsOp o2 (some 5) (.call ⟨.builtin .len, #[.tmp 4], #[ts]⟩)) (h3 : IsOp o3 (some 6) (.binOp .sub ti (.tmp 5) (.const (.int .i64 1)) ti)) (h4 : IsOp o4 (some 3) (.assign (.tmp 6)))
    (h5 : IsOp o5 (some 7) (.move (.tmp 3))) (h6 : IsOp o6 (some 8) (.binOp .geq ti (.tmp 7) (.const (.int .i64 0)) ti))
    (h7 : IsOp o7 (some 11) (.move (.tmp 0))) (h8 : IsOp o8 (some 12) (.move (.tmp 3))) (h9 : IsOp o9 (some 13) (.load ts (.tmp 1))) (h10 : IsOp o10 (some 14) (.move (.tmp 3))) (h11 : IsOp o11 (some 15) (.indexAddr ts (.tmp 13) (.tmp 14))) (h12 : IsOp o12 (some 16) (.load te (.tmp 15)))
    {tys : Array TypeId} (h13 : IsOp o13 (some 17) (.call ⟨.value (.tmp 11), #[.tmp 12, .tmp 16], tys⟩)) {tb : Nat} (h14 : IsOp o14 (some 18) (.unOp .not tb (.tmp 17)))
    (h15 : IsOp o15 (some 9) (.move (.tmp 3))) (h16 : IsOp o16 (some 10) (.binOp .sub ti (.tmp 9) (.const (.int .i64 1)) ti)) (h17 : IsOp o17 (some 3) (.assign (.tmp 10))) : RowsBack P T gf te := by
  have henter : ∀ args w, (callFunc gf args).run P w = .ok (.enter gf args) w := fun args w => by
    have h1 : fn.name ≠ "runtime.NumGoroutine" := by simpa using hn
    simp [callFunc, hf, h1, hb]
  refine ⟨henter, ?_⟩
  intro ei hei l m fl xs F b o sv w J Jx Jp hlim hsz hF hR hJc hJxc hround hJ0
  rw [hte] at hei
  injection hei with hei
  subst hei
  refine (callsIn_wide (n := m + 1)).1 (callsIn_of_wp hf hb trivial ?_)
  rw [IsOp.mk_ h1, IsOp.mk_ h2, IsOp.mk_ h3, IsOp.mk_ h4, IsOp.mk_ h5, IsOp.mk_ h6, IsOp.mk_ h7, IsOp.mk_ h8, IsOp.mk_ h9, IsOp.mk_ h10, IsOp.mk_ h11, IsOp.mk_ h12, IsOp.mk_ h13, IsOp.mk_ h14, IsOp.mk_ h15, IsOp.mk_ h16, IsOp.mk_ h17]
  have hE0 : EnvOk 19 [] F (fun _ _ _ => none) ⟨fun i => (([.func (.yield l) [] [], .rptr [.lst fl xs] 0] : List PV)[i]?).getD undefP, [], []⟩ { tmps := #[.func (.yield l) #[] #[], .pointer (some ⟨b, o, none⟩)] ++ Array.replicate (19 - 2) undef, defers := [] } := by
    refine env_start (args := [.func (.yield l) [] [], .rptr [.lst fl xs] 0]) (vs := #[.func (.yield l) #[] #[], .pointer (some ⟨b, o, none⟩)]) ⟨rfl, fun j c v hc hv => ?_⟩ (by simp)
    match j with
    | 0 =>
      simp at hc hv
      subst hc hv
      exact .func _ [] [] #[] #[] rfl rfl (by simp) (by simp)
    | 1 =>
      simp at hc hv
      subst hc hv
      exact .rptr [.lst fl xs] 0 b o (fun _ => sv) (by simp [one]) (fun j c hc => by
        cases j with
        | zero => simpa using hF
        | succ j => simp at hc) (fun j c hc => by
        cases j with
        | zero => simp at hc; subst hc; exact hR
        | succ j => simp at hc)
    | j + 2 => simp at hc
  have hl0 : loadV tsi [.lst fl xs] 0 = some (.lst fl xs) := by simp [loadV, TD.isAgg, htsd]
  have hlim' : (xs.length : Int) ≤ 70368744177664 := by unfold lim at hlim; omega
  have hwrap : ∀ x : Int, -10 ≤ x → x ≤ 70368744177664 → IntKind.wrap .i64 x = x := fun x h1 h2 => by
    rw [IntKind.wrap_i64]; omega
  simp only [hnt, List.size_toArray, List.length_cons, List.length_nil, Nat.zero_add]
  refine wpIn_seq (wpIn_region_lit ?_)
  have k0 := inv_none (F := F) (w := w) (hJc _ _ hJ0)
  refine pure_list (n := 19) (ds := []) hT (by simp [wfOps]) [] [_, _, _, _] _ _ k0 (s' := ⟨upd (upd (upd (upd (fun i => (([.func (.yield l) [] [], .rptr [.lst fl xs] 0] : List PV)[i]?).getD undefP) 4 (.lst fl xs)) 5 (.int .i64 xs.length)) 6 (.int .i64 (xs.length - 1))) 3 (.int .i64 (xs.length - 1)), [], []⟩) ?_ (by simp [isPure, isMake]) hE0 (fun a1 hE1 => ?_)
  · simp [hts, htsd, hl0, hwrap ((xs.length : Int) - 1) (by omega) (by omega)]
  show Exit.then _ _ .normal a1 w
  refine wpIn_block ?_
  have loop : (Code.loop (.seq (.seq (.region i1 (List.toArray [⟨some 7, .move (.tmp 3), o5.type, o5.pos, o5.after, none⟩, ⟨some 8, .binOp .geq ti (.tmp 7) (.const (.int .i64 0)) ti, o6.type, o6.pos, o6.after, none⟩]) false) (.cond (.tmp 8) .skip (.exit b0))) (.seq (.block b1 (.seq (.region i2 (List.toArray [⟨some 11, .move (.tmp 0), o7.type, o7.pos, o7.after, none⟩, ⟨some 12, .move (.tmp 3), o8.type, o8.pos, o8.after, none⟩, ⟨some 13, .load ts (.tmp 1), o9.type, o9.pos, o9.after, none⟩, ⟨some 14, .move (.tmp 3), o10.type, o10.pos, o10.after, none⟩, ⟨some 15, .indexAddr ts (.tmp 13) (.tmp 14), o11.type, o11.pos, o11.after, none⟩, ⟨some 16, .load te (.tmp 15), o12.type, o12.pos, o12.after, none⟩, ⟨some 17, .call ⟨.value (.tmp 11), #[.tmp 12, .tmp 16], tys⟩, o13.type, o13.pos, o13.after, none⟩, ⟨some 18, .unOp .not tb (.tmp 17), o14.type, o14.pos, o14.after, none⟩]) false) (.cond (.tmp 18) .ret .skip))) (.region i3 (List.toArray [⟨some 9, .move (.tmp 3), o15.type, o15.pos, o15.after, none⟩, ⟨some 10, .binOp .sub ti (.tmp 9) (.const (.int .i64 1)) ti, o16.type, o16.pos, o16.after, none⟩, ⟨some 3, .assign (.tmp 10), o17.type, o17.pos, o17.after, none⟩]) false)))).wpIn Fence.wide (m + 1) P (fun e a' w' => (e = .exit b0 ∧ a'.defers = [] ∧ J 0 w') ∨ (e = .ret ∧ a'.defers = [] ∧ Jx w') ∨ ∃ c, e = .panic c ∧ a'.defers = [] ∧ Jp c w') a1 w := by
    refine wpIn_loop (fun a V => ∃ (i : Nat) (env : Nat → PV), i ≤ xs.length ∧ EnvOk 19 [] F (fun _ _ _ => none) ⟨env, [], []⟩ a ∧ env 0 = .func (.yield l) [] [] ∧ env 1 = .rptr [.lst fl xs] 0 ∧ env 3 = .int .i64 ((i : Int) - 1) ∧ J i V)
      (fun a _ => match a.tmps.getD 3 undef with
        | .int _ n => (n + 1).toNat
        | _ => 0) ⟨xs.length, _, Nat.le_refl _, hE1, by simp, by simp, by simp, hJ0⟩ ?_
    rintro a V ⟨i, env, hi, hE, e0, e1, e3, hJ⟩
    have k1 := inv_none (F := F) (w := V) (hJc _ _ hJ)
    have hmu : a.tmps.getD 3 undef = .int .i64 ((i : Int) - 1) := by
      have := hE.rep 3
      simp only [e3] at this
      exact rep_int this
    refine wpIn_seq (wpIn_seq (wpIn_region_lit (pure_list (n := 19) (ds := []) hT (by simp [wfOps]) [] [_, _] _ _ k1 (s' := ⟨upd (upd env 7 (.int .i64 ((i : Int) - 1))) 8 (.bool (decide ((0 : Int) ≤ (i : Int) - 1))), [], []⟩) (by simp [e3]) (by simp [isPure, isMake]) hE (fun a2 hE2 => ?_))))
    show Exit.then _ _ .normal a2 V
    have h8 := rep_bool (by simpa using hE2.rep 8 : Rep F (fun _ _ _ => none) (.bool (decide ((0 : Int) ≤ (i : Int) - 1))) (a2.tmps.getD 8 undef))
    refine wpIn_cond h8 ?_
    cases i with
    | zero =>
      simp only [Int.natCast_zero, show decide ((0 : Int) ≤ 0 - 1) = false from rfl, Bool.false_eq_true, if_false]
      refine wpIn_exit ?_
      exact .inl ⟨rfl, hE2.defers, hJ⟩
    | succ i =>
      have hd : decide ((0 : Int) ≤ ((i + 1 : Nat) : Int) - 1) = true := by simp
      simp only [hd, if_true]
      refine wpIn_skip ?_
      show Code.wpIn _ _ _ _ _ _ _
      have hilt : i < xs.length := by omega
      obtain ⟨x, hx⟩ : ∃ x, xs[i]? = some x := ⟨_, List.getElem?_eq_getElem hilt⟩
      have hxs := hsz x (List.mem_of_getElem? hx)
      have hint : ((i + 1 : Nat) : Int) - 1 = (i : Int) := by omega
      rw [hint] at e3 hE2
      obtain ⟨y, hy⟩ : ∃ y, loadV tei (cellsOf x) 0 = some y := by
        have hpos := (hT.ok _ _ hte).2.2.2
        unfold loadV
        split
        · rw [if_pos (by omega)]; exact ⟨_, rfl⟩
        · exact ⟨_, List.getElem?_eq_getElem (by omega)⟩
      refine wpIn_seq (wpIn_block (wpIn_seq (wpIn_region_lit (pure_list (n := 19) (ds := []) hT (by simp [wfOps]) [_, _] [_, _, _, _, _, _] _ _ k1 (s' := ⟨upd (upd (upd (upd (upd (upd (upd (upd env 7 (.int .i64 i)) 8 (.bool (decide ((0 : Int) ≤ (i : Int))))) 11 (.func (.yield l) [] [])) 12 (.int .i64 i)) 13 (.lst fl xs)) 14 (.int .i64 i)) 15 (.rptr (cellsOf x) 0)) 16 y, [], []⟩) ?_ (by simp [isPure, isMake]) hE2 (fun a3 hE3 => ?_)))))
      · simp [e0, e1, e3, hts, htsd, hte, hx, hxs, hl0, hy]
      · refine wpListIn_plain rfl fun K hK => ?_
        have g11 := rep_func0 (by simpa using hE3.eval (.tmp 11) : Rep F (fun _ _ _ => none) (.func (.yield l) [] []) (a3.eval (.tmp 11)))
        have g12 := rep_int (by simpa using hE3.eval (.tmp 12) : Rep F (fun _ _ _ => none) (.int .i64 i) (a3.eval (.tmp 12)))
        have g16 : Rep F (fun _ _ _ => none) y (a3.eval (.tmp 16)) := by simpa using hE3.eval (.tmp 16)
        have hydat : RepD F y (a3.eval (.tmp 16)) := by
          have hx' := rep_lst (.data _ _ rfl hR : Rep F (fun _ _ _ => none) (.lst fl xs) sv)
          obtain ⟨_, b', o', _, sz', cv', _, _, _, _, _, hone, hFx, hRx⟩ := hx'
          have hdd : isData y = true := by
            unfold loadV at hy
            have hall : ∀ c ∈ cellsOf x, isData c = true := fun c hc => by
              obtain ⟨j, hj⟩ := List.getElem?_of_mem hc
              exact (hRx i x j c hx hj).isData
            split at hy
            · rw [if_pos (by omega)] at hy
              injection hy with hy
              subst hy
              simp only [isData, isDataL_iff]
              intro c hc
              exact hall c (List.mem_of_mem_drop (List.mem_of_mem_take hc))
            · exact hall y (List.mem_of_getElem? hy)
          exact g16.data_of hdd
        obtain ⟨fn', tmps', asg', body', hy1, hy2⟩ := hround i x y hx hy V _ hJ hydat
        refine ⟨fun _ _ => trivial, ?_⟩
        rw [show Fence.wide.round = none from rfl, Oper.semAt_none]
        have hex : (execOp a3.eval ⟨some 17, .call ⟨.value (.tmp 11), #[.tmp 12, .tmp 16], tys⟩, o13.type, o13.pos, o13.after, none⟩).run P V = .ok (.round l fn' tmps' asg' body') V := by
          rw [← hy1]
          simp [execOp, resolve, invoke, Deferred.ofValue, g11, g12]
        rw [hex]
        refine ⟨fun e => by simp [Fence.wide] at e, ?_⟩
        refine RoundIn.mono (by simpa using hy2) ?_
        rintro e V' (⟨rfl, hJ'⟩ | ⟨rfl, hJ'⟩ | ⟨c, rfl, hJ'⟩)
        · have hE4 : EnvOk 19 [] F (fun _ _ _ => none) ⟨upd (upd (upd (upd (upd (upd (upd (upd (upd env 7 (.int .i64 i)) 8 (.bool (decide ((0 : Int) ≤ (i : Int))))) 11 (.func (.yield l) [] [])) 12 (.int .i64 i)) 13 (.lst fl xs)) 14 (.int .i64 i)) 15 (.rptr (cellsOf x) 0)) 16 y) 17 (.bool true), [], []⟩ (a3.put (some 17) (.bool true)) := hE3.put (dst := some 17) (by rintro d ⟨⟩; omega) (.data _ _ rfl (.bool true))
          have k2 := inv_none (F := F) (w := V') (hJc _ _ hJ')
          refine hK _ _ (pure_list (n := 19) (ds := []) hT (by simp [wfOps]) [] [_] _ _ k2 (s' := ⟨upd (upd (upd (upd (upd (upd (upd (upd (upd (upd env 7 (.int .i64 i)) 8 (.bool (decide ((0 : Int) ≤ (i : Int))))) 11 (.func (.yield l) [] [])) 12 (.int .i64 i)) 13 (.lst fl xs)) 14 (.int .i64 i)) 15 (.rptr (cellsOf x) 0)) 16 y) 17 (.bool true)) 18 (.bool false), [], []⟩) (by simp) (by simp [isPure, isMake]) hE4 (fun a5 hE5 => ?_))
          show Exit.then _ _ .normal a5 V'
          refine wpIn_cond (rep_bool (by simpa using hE5.rep 18 : Rep F (fun _ _ _ => none) (.bool false) (a5.tmps.getD 18 undef))) ?_
          refine wpIn_skip ?_
          show Code.wpIn _ _ _ _ _ _ _
          refine wpIn_region_lit (pure_list (n := 19) (ds := []) hT (by simp [wfOps]) [] [_, _, _] _ _ k2 (s' := ⟨upd (upd (upd (upd (upd (upd (upd (upd (upd (upd (upd (upd (upd env 7 (.int .i64 i)) 8 (.bool (decide ((0 : Int) ≤ (i : Int))))) 11 (.func (.yield l) [] [])) 12 (.int .i64 i)) 13 (.lst fl xs)) 14 (.int .i64 i)) 15 (.rptr (cellsOf x) 0)) 16 y) 17 (.bool true)) 18 (.bool false)) 9 (.int .i64 i)) 10 (.int .i64 ((i : Int) - 1))) 3 (.int .i64 ((i : Int) - 1)), [], []⟩) (by simp [e3, hwrap ((i : Int) - 1) (by omega) (by omega)]) (by simp [isPure, isMake]) hE5 (fun a6 hE6 => ?_))
          show Exit.then _ _ .normal a6 V'
          refine ⟨⟨i, _, by omega, hE6, by simp [e0], by simp [e1], by simp, hJ'⟩, ?_⟩
          have hmu' : a6.tmps.getD 3 undef = .int .i64 ((i : Int) - 1) := by
            have := hE6.rep 3
            simp at this
            have := rep_int this
            simpa using this
          rw [hmu, hmu']
          simp
        · have hE4 : EnvOk 19 [] F (fun _ _ _ => none) ⟨upd (upd (upd (upd (upd (upd (upd (upd (upd env 7 (.int .i64 i)) 8 (.bool (decide ((0 : Int) ≤ (i : Int))))) 11 (.func (.yield l) [] [])) 12 (.int .i64 i)) 13 (.lst fl xs)) 14 (.int .i64 i)) 15 (.rptr (cellsOf x) 0)) 16 y) 17 (.bool false), [], []⟩ (a3.put (some 17) (.bool false)) := hE3.put (dst := some 17) (by rintro d ⟨⟩; omega) (.data _ _ rfl (.bool false))
          have k2 := inv_none (F := F) (w := V') (hJxc _ hJ')
          refine hK _ _ (pure_list (n := 19) (ds := []) hT (by simp [wfOps]) [] [_] _ _ k2 (s' := ⟨upd (upd (upd (upd (upd (upd (upd (upd (upd (upd env 7 (.int .i64 i)) 8 (.bool (decide ((0 : Int) ≤ (i : Int))))) 11 (.func (.yield l) [] [])) 12 (.int .i64 i)) 13 (.lst fl xs)) 14 (.int .i64 i)) 15 (.rptr (cellsOf x) 0)) 16 y) 17 (.bool false)) 18 (.bool true), [], []⟩) (by simp) (by simp [isPure, isMake]) hE4 (fun a5 hE5 => ?_))
          show Exit.then _ _ .normal a5 V'
          refine wpIn_cond (rep_bool (by simpa using hE5.rep 18 : Rep F (fun _ _ _ => none) (.bool true) (a5.tmps.getD 18 undef))) ?_
          refine wpIn_ret ?_
          exact .inr (.inl ⟨rfl, hE5.defers, hJ'⟩)
        · refine .inr (.inr ⟨c, rfl, hE3.defers, hJ'⟩)
  refine wpIn_mono loop ?_
  rintro e a' w' (⟨rfl, hd, hJ⟩ | ⟨rfl, hd, hJ⟩ | ⟨c, rfl, hd, hJ⟩)
  · simp only [Exit.inBlock, if_true]
    exact ⟨hd, _, results_none hres _ _ _, .inl ⟨⟨_, rfl⟩, .inl hJ⟩⟩
  · exact ⟨hd, _, results_none hres _ _ _, .inl ⟨⟨_, rfl⟩, .inr hJ⟩⟩
  · exact ⟨hd, .inr ⟨c, rfl, hJ⟩⟩

/-- A box of a frame that ends, never written again: its cells are known from now on. -/
theorem Inv.freeze {L : List Blk} {H : Heap} (hI : Inv F φ (L :: H) w) {k : Nat} {cs : List PV} {b S : Nat} (hk : L[k]? = some (.box cs)) (hp : φ H.length k 0 = some (b, S, 0)) (hd : ∀ c ∈ cs, isData c = true) :
    ∃ (F' : FM) (cv : Nat → Value), FM.le F F' ∧ Inv F' (φ.under H.length) H w ∧ (∀ (j : Nat) (c : PV), cs[j]? = some c → F' b j = some (cv j) ∧ RepD F' c (cv j)) ∧ (∀ c ∈ cs, one c = true) ∧ ∀ i o, i ≠ b → F' i o = F i o := by
  have hB : atS (L :: H) H.length k = some (.box cs) := by rw [atS_top]; exact hk
  obtain ⟨b', C, t, h1, h2, h3, h4, h5⟩ := hI.blk _ k _ hB
  rw [h1] at hp
  injection hp with hp
  simp only [Prod.mk.injEq] at hp
  obtain ⟨rfl, rfl, _⟩ := hp
  have hbat : blkAt φ H.length k (.box cs) = some b' := by simp [blkAt, h1]
  have hle : FM.le F (fun i o => if i = b' then C[o]? else F i o) := fun i o v e => by
    by_cases hi : i = b'
    · subst hi; rw [h5] at e; cases e
    · simp [hi, e]
  have hd0 := hI.drop
  refine ⟨_, fun j => (C[j]?).getD undef, hle, ⟨fun i o v e => ?_, hd0.new, fun d k' B hB' => ?_, hd0.sep, hd0.top⟩, fun j c hc => ?_, fun c hc => ?_, fun i o hi => by simp [hi]⟩
  · by_cases hi : i = b'
    · subst hi
      simp only [if_true] at e
      unfold World.cell?
      simp [h2, e]
    · simp only [hi, if_false] at e
      exact hI.cell i o v e
  · refine (hd0.blk d k' B hB').keep hle (PM.le.refl _) (fun i hi => ⟨rfl, fun o => ?_⟩)
    have hne : i ≠ b' := by
      rintro rfl
      have hlt := atS_lt hB'
      rw [blkAt_under hlt] at hi
      have := (hI.sep d k' B _ k _ _ (at_up hB') hB hi hbat).1
      omega
    simp only [hne, if_false]
    exact hd0.free hB' hi o
  · obtain ⟨v, hv, hr⟩ := (h4 j c hc).2
    simp only [if_true, hv, Option.getD_some, true_and]
    exact (hr.data_of (hd c (List.mem_of_getElem? hc))).mono hle
  · obtain ⟨j, hj⟩ := List.getElem?_of_mem hc
    exact (h4 j c hj).1

theorem body_calls (hT : TOk P T) {O : Orc} (hO : CallOk P O) (hL : LoopOk P O) (hB : BackOk P T O) (hm : P.follows .mixedOrders = true) {f : FuncId} {fn : Func} {c : Code} (hP : P.funcs[f]? = some fn) (hb : fn.body = some c) (hwf : wfCodeR fn.ntmps c = true)
    {wl : Nat} {args : List PV} {vs : Array Value} {H : Heap} {ex : Ex} {s' : St} (hrun : run T O wl c { env := fun i => (args[i]?).getD undefP, L := [], H := H } = some (ex, s')) (hx : ex = .normal ∨ ex = .ret) (hI : Inv F φ H w) (hr : Reps F φ args vs.toList) (hlen : args.length ≤ fn.ntmps) {R : Ending → World → Prop}
    (hk : ∀ F' φ' ms a' w', Adv (fun d => wl ≤ d ∨ d = H.length) F φ ([] :: H) w F' φ' s'.stack w' → Inv F' φ' s'.stack w' → EnvOk fn.ntmps ms F' φ' s' a' → ∃ v, (results fn a'.tmps).run P w' = .ok v w' ∧ R (.returned v) w') : Calls P f vs w R := by
  have hE := env_start (n := fn.ntmps) (H := H) hr hlen
  have hout := run_okAt (P := P) (T := T) (O := O) (n := fn.ntmps) (W := fun d => wl ≤ d ∨ d = H.length) hT hO hL hB hm hP (wl := wl) c _ ex s' F φ _ w hwf hrun (fun d hd => hd) hI.push hE
  refine calls_of_wpAt hP hb (wpAt_mono hout fun e a' w' ho => ?_)
  obtain ⟨ms, hms, F', φ', h1, h2, h3⟩ := ho
  simp only [List.append_nil] at h3
  have done : EnvOk fn.ntmps ms F' φ' s' a' → LeavesInM Fence.wide 0 P fn a'.tmps R a'.defers .returning w' := by
    intro hE'
    have := leaves_marks (P := P) (fn := fn) (tmps := a'.tmps) (R := R) (Nat.le_refl _) (ds := []) (u := .returning) (by simp) (fun w2 g1 g2 => hk F' φ' ms a' w2 g2 g1 hE') hms h2 h1
    rw [hE'.defers]
    simpa using this
  rcases hx with rfl | rfl
  · obtain ⟨rfl, hE'⟩ := h3.normal
    exact done hE'
  · cases e with
    | ret => exact done h3
    | _ => exact h3.elim

/-- What slices.Backward tells: k: its closure. -/
def backG (k : FuncId) : Orc → Nat → List PV → Heap → Option (Out × Heap) := fun _ _ args H => match args with
  | [.lst fl xs] => some (.ret (.func (.func k) [] [.rptr [.lst fl xs] 0]), H)
  | _ => none

theorem backG_ok (hT : TOk P T) (hm : P.follows .mixedOrders = true) {f k : FuncId} {fn : Func} (hf : P.funcs[f]? = some fn) (hn : (fn.name == "runtime.NumGoroutine") = false) (hnt : fn.ntmps = 4) (hres : fn.results = #[.tmp 2]) {ts : Nat} {tsi : TI} (hts : T ts = some tsi) (hsz : tsi.size = 1)
    {i0 i1 : Nat} {o1 o2 o3 o4 : Oper} (hb : fn.body = some (.seq (.region i0 #[o1, o2] false) (.seq (.region i1 #[o3, o4] false) .ret)))
    (h1 : IsOp o1 (some 1) (.box ts (.tmp 0))) (h2 : IsOp o2 (some 2) (.assign (.const .nilFunc))) (h3 : IsOp o3 (some 3) (.makeFunc (.func k) #[] #[.tmp 1])) (h4 : IsOp o4 (some 2) (.assign (.tmp 3)))
    {O : Orc} (hO : CallOk P O) (hL : LoopOk P O) (hB : BackOk P T O) {wl : Nat} {args : List PV} {H H' : Heap} {out : Out} (hg : backG k O wl args H = some (out, H')) {vs : Array Value} (hI : Inv F φ H w) (hr : Reps F φ args vs.toList) :
    Goes P f vs w fun e w' => ∃ F' φ', Adv (fun d => wl ≤ d) F φ H w F' φ' H' w' ∧ Inv F' φ' H' w' ∧ RelOut F' φ' out e := by
  unfold backG at hg
  split at hg
  · rename_i fl xs
    simp only [Option.some.injEq, Prod.mk.injEq] at hg
    obtain ⟨rfl, rfl⟩ := hg
    have henter : (callFunc f vs).run P w = .ok (.enter f vs) w := by
      have h1 : fn.name ≠ "runtime.NumGoroutine" := by simpa using hn
      simp [callFunc, hf, h1, hb]
    unfold Goes
    rw [henter]
    rw [IsOp.mk_ h1, IsOp.mk_ h2, IsOp.mk_ h3, IsOp.mk_ h4] at hb
    refine body_calls (wl := wl) (args := [.lst fl xs]) (H := H) (ex := .ret) (s' := ⟨upd (upd (upd (upd (fun i => (([.lst fl xs] : List PV)[i]?).getD undefP) 1 (.ptr H.length 0 0)) 2 .nilFunc) 3 (.func (.func k) [] [.ptr H.length 0 0])) 2 (.func (.func k) [] [.ptr H.length 0 0]), [.box [.lst fl xs]], H⟩) hT hO hL hB hm hf hb (by rw [hnt]; simp [wfCodeR, wfCode, wfOps]) ?_ (.inr rfl) hI hr (by simp [hnt]) ?_
    · simp [makeOp, hts, hsz, cellsOf, flat, shutOps, run_region]
    · intro F' φ' ms a' w' a1 i1 hE
      have hv : Rep F' φ' (.func (.func k) [] [.ptr H.length 0 0]) (a'.tmps.getD 2 undef) := by simpa [upd] using hE.rep 2
      generalize hga : a'.tmps.getD 2 undef = gv at hv
      cases hv with
      | data p v hl h => simp [isLeaf] at hl
      | func g fs cs vs' us hl hm' q1 q2 =>
      have hvs : vs' = #[] := by apply Array.ext'; simpa using hl
      subst hvs
      obtain ⟨u0, rfl⟩ : ∃ u0, us = #[u0] := by
        match us, hm' with
        | ⟨[u0]⟩, _ => exact ⟨u0, rfl⟩
      have hptr := q2 0 _ u0 rfl rfl
      cases hptr with
      | data p v hl h => simp [isLeaf] at hl
      | ptr d k' off b S hp =>
      refine ⟨_, results_tmp (by rw [hres]) _ _ _, ?_⟩
      obtain ⟨F2, cv, c1, c2, c3, c4, c5⟩ := i1.freeze (L := [.box [.lst fl xs]]) (k := 0) rfl hp (by simp [Go.GL.isData])
      have hl2 : H.length = H.length := rfl
      have a2 := a1.drop hI (wl := wl) (fun d hd => hd)
      have hbat : blkAt φ' H.length 0 (.box [.lst fl xs]) = some b := by simp [blkAt, hp]
      refine ⟨F2, φ'.under H.length, ⟨a2.fm.trans c1, a2.pm, a2.len, a2.os, a2.tape, a2.output, a2.size, fun i hi hn => ⟨(a2.block i hi hn).1, fun o => ?_⟩, a2.old⟩, c2, ?_⟩
      · rw [c5 i o ?_]
        · exact (a2.block i hi hn).2 o
        · rintro rfl
          obtain ⟨B, h5, _⟩ := a1.old H.length 0 _ i (by rw [St.stack, atS_top]; rfl) hbat hi
          have := (at_down h5).2
          omega
      · show Rep _ _ _ (a'.tmps.getD 2 undef)
        rw [hga]
        refine .func _ [] _ #[] _ rfl (by simp) (by simp) (fun j c v hc hv => ?_)
        cases j with
        | zero =>
          simp at hc hv
          subst hc hv
          have := Rep.rptr (φ := φ'.under H.length) [.lst fl xs] 0 b 0 cv c4 (fun j c hc => by rw [Nat.zero_add]; exact (c3 j c hc).1) (fun j c hc => (c3 j c hc).2)
          simpa using this
        | succ j => simp at hc
  · cases hg
end
end Go.GL
