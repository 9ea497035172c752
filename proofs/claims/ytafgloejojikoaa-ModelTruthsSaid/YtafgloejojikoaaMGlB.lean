/-
  GL, part B: the limit of the rounds, and its equations. Part A's steps look at finitely many questions.
-/
import Derived.Test.YtafgloejojikoaaMGlA
set_option linter.unusedSimpArgs false
set_option linter.unusedVariables false
/-! GL, part B: the limit of the rounds, and its equations. Part A's steps look at finitely many questions. -/
namespace Go.GL

/-- What one oracle tells the other one tells, too. -/
structure Orc.le (A B : Orc) : Prop where
  call : ∀ f wl args H r, A.call f wl args H = some r → B.call f wl args H = some r
  loop : ∀ wl c s r, A.loop wl c s = some r → B.loop wl c s = some r
  back : ∀ f e, A.back f = some e → B.back f = some e

theorem Orc.le.refl (A : Orc) : Orc.le A A := ⟨fun _ _ _ _ _ h => h, fun _ _ _ _ h => h, fun _ _ h => h⟩
theorem Orc.le.trans {A B C : Orc} (h : Orc.le A B) (k : Orc.le B C) : Orc.le A C :=
  ⟨fun f wl args H r e => k.call f wl args H r (h.call f wl args H r e), fun wl c s r e => k.loop wl c s r (h.loop wl c s r e), fun f e x => k.back f e (h.back f e x)⟩

def Orc.bot : Orc := ⟨fun _ _ _ _ => none, fun _ _ _ => none, fun _ => none⟩

section
variable {T : Tab} {A B : Orc} (h : Orc.le A B)
include h

theorem callOp_le {wl f args} {s : St} {r} (e : callOp A wl f args s = some r) : callOp B wl f args s = some r := by
  unfold callOp at *
  split <;> simp_all only []
  split <;> simp_all only []
  split at e
  · rename_i hh
    rw [h.call _ _ _ _ _ hh]
    exact e
  · rename_i hh
    rw [h.call _ _ _ _ _ hh]
    exact e
  · cases e

theorem opRun_le {wl : Nat} {o : Oper} {s : St} {r} (e : opRun T A wl o s = some r) : opRun T B wl o s = some r := by
  unfold opRun at *
  split <;> simp_all only []
  exact callOp_le h e

theorem stepOp_le {wl : Nat} {ops : Array Oper} {o : Oper} {s : St} {r} (e : stepOp T A wl ops o s = some r) : stepOp T B wl ops o s = some r := by
  unfold stepOp at *
  split <;> simp_all only []
  split <;> simp_all only [if_true, if_false, Bool.false_eq_true]
  · exact opRun_le h e

theorem runOps_le {wl : Nat} {ops : Array Oper} : ∀ (l : List Oper) (s : St) {r}, runOps T A wl ops l s = some r → runOps T B wl ops l s = some r
  | [], s, r, e => e
  | o :: os, s, r, e => by
    unfold runOps at *
    cases hs : stepOp T A wl ops o s with
    | none => rw [hs] at e; cases e
    | some q =>
      rw [stepOp_le h hs]
      rw [hs] at e
      obtain ⟨q, s1⟩ := q
      cases q with
      | val v => exact runOps_le os _ e
      | panic v => exact e

theorem callDraw_le {sl : Bool} {L0 i f args} {s : St} {r} (e : callDraw A sl L0 i f args s = some r) : callDraw B sl L0 i f args s = some r := by
  unfold callDraw at *
  split <;> simp_all only []
  split <;> simp_all only []
  split at e
  · rename_i hh
    rw [if_pos hh]
    cases hc : A.call _ _ _ _ with
    | none => rw [hc] at e; cases e
    | some q => rw [hc] at e; rw [h.call _ _ _ _ _ hc]; exact e
  · cases e

theorem opDraw_le {wl : Nat} {L0 i} {o : Oper} {s : St} {r} (e : opDraw T A wl L0 i o s = some r) : opDraw T B wl L0 i o s = some r := by
  unfold opDraw at *
  split <;> simp_all only []
  exact callDraw_le h e

theorem opSoft_le {wl : Nat} {ops : Array Oper} {L0 i} {o : Oper} {s : St} {r} (e : opSoft T A wl ops L0 i o s = some r) : opSoft T B wl ops L0 i o s = some r := by
  unfold opSoft at *
  cases h1 : lateOf ops o with
  | true => rw [h1] at e; exact e
  | false =>
    cases h2 : newSt ops o with
    | true => rw [h1, h2] at e; exact e
    | false =>
      rw [h1, h2] at e
      cases h3 : sealOp ops o with
      | false => rw [h3] at e; exact opDraw_le h e
      | true =>
        rw [h3] at e
        simp only [cond_false, cond_true] at e ⊢
        unfold sealDraw at *
        split <;> simp_all only []
        exact callDraw_le h e

theorem stepDraw_le {wl : Nat} {ops : Array Oper} {L0 i} {o : Oper} {s : St} {r} (e : stepDraw T A wl ops L0 i o s = some r) : stepDraw T B wl ops L0 i o s = some r := by
  unfold stepDraw at *
  split <;> simp_all only []
  split <;> simp_all only [if_true, if_false, Bool.false_eq_true]
  · exact opSoft_le h e

theorem runDraw_le {wl : Nat} {ops : Array Oper} {L0} : ∀ (i : Nat) (l : List Oper) (s : St) {r}, runDraw T A wl ops L0 i l s = some r → runDraw T B wl ops L0 i l s = some r
  | _, [], s, r, e => e
  | i, o :: os, s, r, e => by
    unfold runDraw at *
    cases hs : stepDraw T A wl ops L0 i o s with
    | none => rw [hs] at e; cases e
    | some q =>
      rw [stepDraw_le h hs]
      rw [hs] at e
      obtain ⟨q, s1⟩ := q
      cases q with
      | val v => exact runDraw_le (i + 1) os _ e
      | panic v => exact e

theorem rangeP_le {ps : Array Nat} {g : PV} {r} (e : rangeP T A ps g = some r) : rangeP T B ps g = some r := by
  unfold rangeP at *
  split at e
  · rename_i p q f xs h1 h2
    cases hb : (A.back f).bind T with
    | none => rw [hb] at e; cases e
    | some ei =>
      obtain ⟨t, ht, hti⟩ := Option.bind_eq_some_iff.1 hb
      simp only [Option.bind_eq_some_iff.2 ⟨t, h.back _ _ ht, hti⟩]
      rw [hb] at e
      exact e
  · cases e

omit h in
theorem backR_le {C D C' D' : St → Option (Ex × St)} (h1 : ∀ s r, C s = some r → C' s = some r) (h2 : ∀ s r, D s = some r → D' s = some r) {p q : Nat} {ei : TI} {env : Nat → PV} {xs : List PV} :
    ∀ (i : Nat) (L : List Blk) (H : Heap) {r}, backR C D p q ei env xs i L H = some r → backR C' D' p q ei env xs i L H = some r
  | 0, L, H, r, e => e
  | i + 1, L, H, r, e => by
    simp only [backR] at *
    split at e
    · rename_i y hy
      cases hc : C ⟨upd (upd env p (.int .i64 i)) q y, L, H⟩ with
      | none => rw [hc] at e; cases e
      | some o =>
        rw [hc] at e
        rw [h1 _ _ hc]
        obtain ⟨x, s1⟩ := o
        cases x with
        | normal =>
          simp only [] at *
          cases hd : D s1 with
          | none => rw [hd] at e; cases e
          | some o =>
            rw [hd] at e
            rw [h2 _ _ hd]
            obtain ⟨x, s2⟩ := o
            cases x with
            | normal => exact backR_le h1 h2 i _ _ e
            | _ => exact e
        | _ => cases e
    · cases e

theorem run_le {wl : Nat} : ∀ (c : Code) (s : St) {r}, run T A wl c s = some r → run T B wl c s = some r := by
  intro c
  induction c with
  | skip => intro s r e; exact e
  | region id ops draw =>
    intro s r e
    cases draw with
    | false => exact runOps_le h _ _ e
    | true => exact runDraw_le h _ _ _ e
  | seq a b iha ihb =>
    intro s r e
    simp only [run] at *
    cases ha : run T A wl a s with
    | none => rw [ha] at e; cases e
    | some q =>
      rw [iha s ha]
      rw [ha] at e
      obtain ⟨x, s1⟩ := q
      cases x <;> first | exact ihb _ e | exact e
  | cond c a b iha ihb =>
    intro s r e
    simp only [run] at *
    split <;> simp_all only []
    split <;> simp_all only [if_true, if_false, Bool.false_eq_true]
    · exact iha _ e
    · exact ihb _ e
  | block id c ih =>
    intro s r e
    simp only [run] at *
    cases ha : run T A wl c s with
    | none => rw [ha] at e; cases e
    | some q => rw [ih s ha]; rw [ha] at e; exact e
  | loop c ih =>
    intro s r e
    simp only [run] at *
    cases ha : run T A wl c s with
    | none => rw [ha] at e; cases e
    | some q =>
      rw [ih s ha]
      rw [ha] at e
      obtain ⟨x, s1⟩ := q
      cases x <;> first | exact h.loop _ _ _ _ e | exact e
  | exit id => intro s r e; exact e
  | ret => intro s r e; exact e
  | rangeFunc g ps asg body iha ihb =>
    intro s r e
    simp only [run] at *
    cases hr : rangeP T A ps (s.eval g) with
    | none => rw [hr] at e; cases e
    | some o =>
      rw [rangeP_le h hr]
      rw [hr] at e
      exact backR_le (fun s r => iha s) (fun s r => ihb s) _ _ _ e
  | _ => intro s r e; cases e

theorem callBody_le {wl : Nat} {fns keep f args H r} (e : callBody T A wl fns keep f args H = some r) : callBody T B wl fns keep f args H = some r := by
  unfold callBody at *
  split <;> simp_all only []
  split <;> simp_all only []
  split <;> simp_all only [if_true, if_false]
  cases ha : run T A wl _ { env := fun i => (args[i]?).getD undefP, L := [], H := H } with
  | none => rw [ha] at e; cases e
  | some q => rw [run_le h _ _ ha]; rw [ha] at e; exact e
end


/-- A rising row of oracles, and one that tells no more than they do. -/
structure Orc.Lim (C : Nat → Orc) (E : Orc) : Prop where
  up : ∀ n, Orc.le (C n) (C (n + 1))
  call : ∀ f wl args H r, E.call f wl args H = some r → ∃ n, (C n).call f wl args H = some r
  loop : ∀ wl c s r, E.loop wl c s = some r → ∃ n, (C n).loop wl c s = some r
  back : ∀ f e, E.back f = some e → ∃ n, (C n).back f = some e

theorem Orc.Lim.mono {C : Nat → Orc} {E : Orc} (h : Orc.Lim C E) {n m : Nat} (hm : n ≤ m) : Orc.le (C n) (C m) := by
  induction hm with
  | refl => exact Orc.le.refl _
  | step _ ih => exact ih.trans (h.up _)

section
variable {T : Tab} {C : Nat → Orc} {E : Orc} (h : Orc.Lim C E)
include h

theorem callOp_lim {wl f args} {s : St} {r} (e : callOp E wl f args s = some r) : ∃ n, callOp (C n) wl f args s = some r := by
  unfold callOp at *
  cases h1 : targetOf (s.eval f) (args.toList.map s.eval) with
  | none => rw [h1] at e; cases e
  | some p =>
    rw [h1] at e
    simp only [] at *
    split at e
    · split at e
      · rename_i hh
        obtain ⟨n, hn⟩ := h.call _ _ _ _ _ hh
        exact ⟨n, by rw [hn]; exact e⟩
      · rename_i hh
        obtain ⟨n, hn⟩ := h.call _ _ _ _ _ hh
        exact ⟨n, by rw [hn]; exact e⟩
      · cases e
    · cases e

theorem opRun_lim {wl : Nat} {o : Oper} {s : St} {r} (e : opRun T E wl o s = some r) : ∃ n, opRun T (C n) wl o s = some r := by
  unfold opRun at *
  split at e
  · exact ⟨0, e⟩
  · exact ⟨0, e⟩
  · exact callOp_lim h e
  · exact ⟨0, e⟩
  · exact ⟨0, e⟩
  · exact ⟨0, e⟩
  · exact ⟨0, e⟩

theorem stepOp_lim {wl : Nat} {ops : Array Oper} {o : Oper} {s : St} {r} (e : stepOp T E wl ops o s = some r) : ∃ n, stepOp T (C n) wl ops o s = some r := by
  unfold stepOp at *
  cases hw : wantedP ops o s with
  | none => rw [hw] at e; cases e
  | some b =>
    rw [hw] at e
    cases b with
    | false => exact ⟨0, e⟩
    | true => exact opRun_lim h e

theorem runOps_lim {wl : Nat} {ops : Array Oper} : ∀ (l : List Oper) (s : St) {r}, runOps T E wl ops l s = some r → ∃ n, runOps T (C n) wl ops l s = some r
  | [], s, r, e => ⟨0, e⟩
  | o :: os, s, r, e => by
    unfold runOps at e
    cases hs : stepOp T E wl ops o s with
    | none => rw [hs] at e; cases e
    | some q =>
      obtain ⟨n, hn⟩ := stepOp_lim h hs
      rw [hs] at e
      obtain ⟨q, s1⟩ := q
      cases q with
      | val v =>
        obtain ⟨m, hm⟩ := runOps_lim os _ e
        exact ⟨max n m, by unfold runOps; rw [stepOp_le (h.mono (Nat.le_max_left n m)) hn]; exact runOps_le (h.mono (Nat.le_max_right n m)) _ _ hm⟩
      | panic v => exact ⟨n, by unfold runOps; rw [hn]; exact e⟩

theorem callDraw_lim {sl : Bool} {L0 i f args} {s : St} {r} (e : callDraw E sl L0 i f args s = some r) : ∃ n, callDraw (C n) sl L0 i f args s = some r := by
  unfold callDraw at *
  cases h1 : targetOf (s.eval f) (args.toList.map s.eval) with
  | none => rw [h1] at e; cases e
  | some p =>
    rw [h1] at e
    simp only [] at *
    split at e
    · split at e
      · rename_i hh
        cases hc : E.call _ _ _ _ with
        | none => rw [hc] at e; cases e
        | some q =>
          rw [hc] at e
          obtain ⟨n, hn⟩ := h.call _ _ _ _ _ hc
          exact ⟨n, by rw [if_pos hh, hn]; exact e⟩
      · cases e
    · cases e

theorem opDraw_lim {wl : Nat} {L0 i} {o : Oper} {s : St} {r} (e : opDraw T E wl L0 i o s = some r) : ∃ n, opDraw T (C n) wl L0 i o s = some r := by
  unfold opDraw at *
  split at e
  · exact ⟨0, e⟩
  · exact callDraw_lim h e
  · exact ⟨0, e⟩
  · exact ⟨0, e⟩
  · exact ⟨0, e⟩
  · exact ⟨0, e⟩

theorem opSoft_lim {wl : Nat} {ops : Array Oper} {L0 i} {o : Oper} {s : St} {r} (e : opSoft T E wl ops L0 i o s = some r) : ∃ n, opSoft T (C n) wl ops L0 i o s = some r := by
  unfold opSoft at *
  cases h1 : lateOf ops o with
  | true => rw [h1] at e; exact ⟨0, e⟩
  | false =>
    cases h2 : newSt ops o with
    | true => rw [h1, h2] at e; exact ⟨0, e⟩
    | false =>
      rw [h1, h2] at e
      cases h3 : sealOp ops o with
      | false => rw [h3] at e; exact opDraw_lim h e
      | true =>
        rw [h3] at e
        simp only [cond_false, cond_true] at e ⊢
        unfold sealDraw at *
        split at e
        · exact callDraw_lim h e
        · cases e

theorem stepDraw_lim {wl : Nat} {ops : Array Oper} {L0 i} {o : Oper} {s : St} {r} (e : stepDraw T E wl ops L0 i o s = some r) : ∃ n, stepDraw T (C n) wl ops L0 i o s = some r := by
  unfold stepDraw at *
  cases hw : wantedP ops o s with
  | none => rw [hw] at e; cases e
  | some b =>
    rw [hw] at e
    cases b with
    | false => exact ⟨0, e⟩
    | true => exact opSoft_lim h e

theorem runDraw_lim {wl : Nat} {ops : Array Oper} {L0} : ∀ (i : Nat) (l : List Oper) (s : St) {r}, runDraw T E wl ops L0 i l s = some r → ∃ n, runDraw T (C n) wl ops L0 i l s = some r
  | _, [], s, r, e => ⟨0, e⟩
  | i, o :: os, s, r, e => by
    unfold runDraw at e
    cases hs : stepDraw T E wl ops L0 i o s with
    | none => rw [hs] at e; cases e
    | some q =>
      obtain ⟨n, hn⟩ := stepDraw_lim h hs
      rw [hs] at e
      obtain ⟨q, s1⟩ := q
      cases q with
      | val v =>
        obtain ⟨m, hm⟩ := runDraw_lim (i + 1) os _ e
        exact ⟨max n m, by unfold runDraw; rw [stepDraw_le (h.mono (Nat.le_max_left n m)) hn]; exact runDraw_le (h.mono (Nat.le_max_right n m)) _ _ _ hm⟩
      | panic v => exact ⟨n, by unfold runDraw; rw [hn]; exact e⟩

theorem rangeP_lim {ps : Array Nat} {g : PV} {r} (e : rangeP T E ps g = some r) : ∃ n, rangeP T (C n) ps g = some r := by
  unfold rangeP at *
  split at e
  · rename_i p q f xs h1 h2
    cases hb : (E.back f).bind T with
    | none => rw [hb] at e; cases e
    | some ei =>
      obtain ⟨t, ht, hti⟩ := Option.bind_eq_some_iff.1 hb
      obtain ⟨n, hn⟩ := h.back _ _ ht
      refine ⟨n, ?_⟩
      simp only [Option.bind_eq_some_iff.2 ⟨t, hn, hti⟩]
      rw [hb] at e
      exact e
  · cases e

omit h in
theorem backR_lim {T : Tab} {C : Nat → Orc} {E : Orc} (h : Orc.Lim C E) {wl : Nat} {asg body : Code} (h1 : ∀ s r, run T E wl asg s = some r → ∃ n, run T (C n) wl asg s = some r) (h2 : ∀ s r, run T E wl body s = some r → ∃ n, run T (C n) wl body s = some r) {p q : Nat} {ei : TI} {env : Nat → PV} {xs : List PV} :
    ∀ (i : Nat) (L : List Blk) (H : Heap) {r}, backR (run T E wl asg) (run T E wl body) p q ei env xs i L H = some r → ∃ n, backR (run T (C n) wl asg) (run T (C n) wl body) p q ei env xs i L H = some r
  | 0, L, H, r, e => ⟨0, e⟩
  | i + 1, L, H, r, e => by
    simp only [backR] at e
    split at e
    · rename_i y hy
      cases hc : run T E wl asg ⟨upd (upd env p (.int .i64 i)) q y, L, H⟩ with
      | none => rw [hc] at e; cases e
      | some o =>
        obtain ⟨n1, hn1⟩ := h1 _ _ hc
        rw [hc] at e
        obtain ⟨x, s1⟩ := o
        cases x with
        | normal =>
          simp only [] at e
          cases hd : run T E wl body s1 with
          | none => rw [hd] at e; cases e
          | some o =>
            obtain ⟨n2, hn2⟩ := h2 _ _ hd
            rw [hd] at e
            obtain ⟨x, s2⟩ := o
            have up : ∀ m, max n1 n2 ≤ m → run T (C m) wl asg ⟨upd (upd env p (.int .i64 i)) q y, L, H⟩ = some (.normal, s1) ∧ run T (C m) wl body s1 = some (x, s2) := fun m hm =>
              ⟨run_le (h.mono (Nat.le_trans (Nat.le_max_left _ _) hm)) _ _ hn1, run_le (h.mono (Nat.le_trans (Nat.le_max_right _ _) hm)) _ _ hn2⟩
            cases x with
            | normal =>
              obtain ⟨n3, hn3⟩ := backR_lim h h1 h2 i _ _ e
              obtain ⟨q1, q2⟩ := up (max (max n1 n2) n3) (Nat.le_max_left _ _)
              refine ⟨max (max n1 n2) n3, ?_⟩
              simp only [backR, hy, q1, q2]
              exact backR_le (fun s r => run_le (h.mono (Nat.le_max_right _ _)) _ s) (fun s r => run_le (h.mono (Nat.le_max_right _ _)) _ s) _ _ _ hn3
            | _ =>
              obtain ⟨q1, q2⟩ := up (max n1 n2) (Nat.le_refl _)
              exact ⟨max n1 n2, by simp only [backR, hy, q1, q2]; exact e⟩
        | _ => cases e
    · cases e

theorem run_lim {wl : Nat} : ∀ (c : Code) (s : St) {r}, run T E wl c s = some r → ∃ n, run T (C n) wl c s = some r := by
  intro c
  induction c with
  | skip => intro s r e; exact ⟨0, e⟩
  | region id ops draw =>
    intro s r e
    cases draw with
    | false => exact runOps_lim h _ _ e
    | true => exact runDraw_lim h _ _ _ e
  | seq a b iha ihb =>
    intro s r e
    simp only [run] at e
    cases ha : run T E wl a s with
    | none => rw [ha] at e; cases e
    | some q =>
      obtain ⟨n, hn⟩ := iha s ha
      rw [ha] at e
      obtain ⟨x, s1⟩ := q
      cases x with
      | normal =>
        obtain ⟨m, hm⟩ := ihb _ e
        exact ⟨max n m, by simp only [run]; rw [run_le (h.mono (Nat.le_max_left n m)) _ _ hn]; exact run_le (h.mono (Nat.le_max_right n m)) _ _ hm⟩
      | _ => exact ⟨n, by simp only [run]; rw [hn]; exact e⟩
  | cond c a b iha ihb =>
    intro s r e
    simp only [run] at *
    cases hc : s.eval c with
    | bool t =>
      rw [hc] at e
      simp only [] at *
      cases t with
      | true => exact iha _ e
      | false => exact ihb _ e
    | _ => rw [hc] at e; cases e
  | block id c ih =>
    intro s r e
    simp only [run] at *
    cases ha : run T E wl c s with
    | none => rw [ha] at e; cases e
    | some q => obtain ⟨n, hn⟩ := ih s ha; rw [ha] at e; exact ⟨n, by rw [hn]; exact e⟩
  | loop c ih =>
    intro s r e
    simp only [run] at e
    cases ha : run T E wl c s with
    | none => rw [ha] at e; cases e
    | some q =>
      obtain ⟨n, hn⟩ := ih s ha
      rw [ha] at e
      obtain ⟨x, s1⟩ := q
      cases x with
      | normal =>
        obtain ⟨m, hm⟩ := h.loop _ _ _ _ e
        exact ⟨max n m, by simp only [run]; rw [run_le (h.mono (Nat.le_max_left n m)) _ _ hn]; exact (h.mono (Nat.le_max_right n m)).loop _ _ _ _ hm⟩
      | _ => exact ⟨n, by simp only [run]; rw [hn]; exact e⟩
  | exit id => intro s r e; exact ⟨0, e⟩
  | ret => intro s r e; exact ⟨0, e⟩
  | rangeFunc g ps asg body iha ihb =>
    intro s r e
    simp only [run] at e
    cases hr : rangeP T E ps (s.eval g) with
    | none => rw [hr] at e; cases e
    | some o =>
      rw [hr] at e
      obtain ⟨n1, hn1⟩ := rangeP_lim h hr
      obtain ⟨n2, hn2⟩ := backR_lim h (fun s r => iha s) (fun s r => ihb s) _ _ _ e
      refine ⟨max n1 n2, ?_⟩
      simp only [run]
      rw [rangeP_le (h.mono (Nat.le_max_left n1 n2)) hn1]
      exact backR_le (fun s r => run_le (h.mono (Nat.le_max_right _ _)) _ s) (fun s r => run_le (h.mono (Nat.le_max_right _ _)) _ s) _ _ _ hn2
  | _ => intro s r e; cases e

theorem callBody_lim {wl : Nat} {fns keep f args H r} (e : callBody T E wl fns keep f args H = some r) : ∃ n, callBody T (C n) wl fns keep f args H = some r := by
  unfold callBody at *
  cases hf : fns f with
  | none => rw [hf] at e; cases e
  | some fn =>
    rw [hf] at e
    simp only [] at *
    cases hb : fn.body with
    | none => rw [hb] at e; cases e
    | some c =>
      rw [hb] at e
      simp only [] at *
      split at e
      · cases e
      · rename_i hne
        simp only [hne, if_false]
        cases ha : run T E wl c { env := fun i => (args[i]?).getD undefP, L := [], H := H } with
        | none => rw [ha] at e; cases e
        | some q => obtain ⟨n, hn⟩ := run_lim h _ _ ha; rw [ha] at e; exact ⟨n, by rw [hn]; exact e⟩
end

/-- What a special function asks: it rises with what it asks, and asks finitely often. -/
structure SpecOk (X : Spec) : Prop where
  le : ∀ f g, X.call f = some g → ∀ A B, Orc.le A B → ∀ wl args H r, g A wl args H = some r → g B wl args H = some r
  lim : ∀ f g, X.call f = some g → ∀ C E, Orc.Lim C E → ∀ wl args H r, g E wl args H = some r → ∃ n, g (C n) wl args H = some r

def rounds (T : Tab) (fns : FuncId → Option Func) (keep : FuncId → Bool) (X : Spec) : Nat → Orc
  | 0 => Orc.bot
  | n + 1 => nextO T (rounds T fns keep X n) fns keep X

open Classical in
/-- What any number of rounds tells. -/
noncomputable def ev (T : Tab) (fns : FuncId → Option Func) (keep : FuncId → Bool) (X : Spec) : Orc where
  back := X.back
  call := fun f wl args H => if h : ∃ r n, (rounds T fns keep X n).call f wl args H = some r then some h.choose else none
  loop := fun wl c s => if h : ∃ r n, (rounds T fns keep X n).loop wl c s = some r then some h.choose else none

section
variable {T : Tab} {fns : FuncId → Option Func} {keep : FuncId → Bool} {X : Spec} (hX : SpecOk X)
include hX

theorem nextO_le {A B : Orc} (h : Orc.le A B) : Orc.le (nextO T A fns keep X) (nextO T B fns keep X) where
  call := fun f wl args H r e => by
    simp only [nextO] at *
    split <;> simp_all only []
    · rename_i g hg
      exact hX.le f g hg A B h _ _ _ _ e
    · exact callBody_le h e
  loop := fun wl c s r e => run_le h (.loop c) s e
  back := fun _ _ e => e

theorem rounds_up : ∀ n, Orc.le (rounds T fns keep X n) (rounds T fns keep X (n + 1))
  | 0 => ⟨fun _ _ _ _ _ e => (by cases e), fun _ _ _ _ e => (by cases e), fun _ _ e => (by cases e)⟩
  | n + 1 => nextO_le hX (rounds_up n)

theorem rounds_mono {n m : Nat} (hm : n ≤ m) : Orc.le (rounds T fns keep X n) (rounds T fns keep X m) := by
  induction hm with
  | refl => exact Orc.le.refl _
  | step _ ih => exact ih.trans (rounds_up hX _)

theorem ev_call_iff {f wl args H r} : (ev T fns keep X).call f wl args H = some r ↔ ∃ n, (rounds T fns keep X n).call f wl args H = some r := by
  simp only [ev]
  constructor
  · intro e
    split at e
    · rename_i h
      obtain ⟨n, hn⟩ := h.choose_spec
      injection e with e
      exact ⟨n, e ▸ hn⟩
    · cases e
  · rintro ⟨n, hn⟩
    have h : ∃ r n, (rounds T fns keep X n).call f wl args H = some r := ⟨r, n, hn⟩
    rw [dif_pos h]
    obtain ⟨m, hm⟩ := h.choose_spec
    have h1 := (rounds_mono hX (Nat.le_max_left n m)).call _ _ _ _ _ hn
    have h2 := (rounds_mono hX (Nat.le_max_right n m)).call _ _ _ _ _ hm
    rw [h1] at h2
    exact h2.symm

theorem ev_loop_iff {wl c s r} : (ev T fns keep X).loop wl c s = some r ↔ ∃ n, (rounds T fns keep X n).loop wl c s = some r := by
  simp only [ev]
  constructor
  · intro e
    split at e
    · rename_i h
      obtain ⟨n, hn⟩ := h.choose_spec
      injection e with e
      exact ⟨n, e ▸ hn⟩
    · cases e
  · rintro ⟨n, hn⟩
    have h : ∃ r n, (rounds T fns keep X n).loop wl c s = some r := ⟨r, n, hn⟩
    rw [dif_pos h]
    obtain ⟨m, hm⟩ := h.choose_spec
    have h1 := (rounds_mono hX (Nat.le_max_left n m)).loop _ _ _ _ hn
    have h2 := (rounds_mono hX (Nat.le_max_right n m)).loop _ _ _ _ hm
    rw [h1] at h2
    exact h2.symm

theorem ev_lim : Orc.Lim (rounds T fns keep X) (ev T fns keep X) where
  up := rounds_up hX
  call := fun _ _ _ _ _ e => (ev_call_iff hX).1 e
  loop := fun _ _ _ _ e => (ev_loop_iff hX).1 e
  back := fun _ _ e => ⟨1, e⟩

theorem rounds_ev (n : Nat) : Orc.le (rounds T fns keep X n) (ev T fns keep X) where
  call := fun _ _ _ _ _ e => (ev_call_iff hX).2 ⟨n, e⟩
  loop := fun _ _ _ _ e => (ev_loop_iff hX).2 ⟨n, e⟩
  back := fun f e h => (by cases n with
    | zero => cases h
    | succ n => exact h)

omit hX in
theorem opt_ext {α : Type} {a b : Option α} (h : ∀ r, a = some r ↔ b = some r) : a = b := by
  cases a with
  | none => cases b with
    | none => rfl
    | some y => exact absurd ((h y).2 rfl) (by simp)
  | some x => exact ((h x).1 rfl).symm

/-- A call comes to what its body comes to. -/
theorem ev_call {f wl args H} (hf : X.call f = none) : (ev T fns keep X).call f wl args H = callBody T (ev T fns keep X) wl fns keep f args H := by
  refine opt_ext fun r => ⟨fun e => ?_, fun e => ?_⟩
  · obtain ⟨n, hn⟩ := (ev_call_iff hX).1 e
    cases n with
    | zero => cases hn
    | succ n =>
      simp only [rounds, nextO, hf] at hn
      exact callBody_le (rounds_ev hX n) hn
  · obtain ⟨n, hn⟩ := callBody_lim (ev_lim hX) e
    exact (ev_call_iff hX).2 ⟨n + 1, by simp only [rounds, nextO, hf]; exact hn⟩

theorem ev_spec {f g wl args H} (hf : X.call f = some g) : (ev T fns keep X).call f wl args H = g (ev T fns keep X) wl args H := by
  refine opt_ext fun r => ⟨fun e => ?_, fun e => ?_⟩
  · obtain ⟨n, hn⟩ := (ev_call_iff hX).1 e
    cases n with
    | zero => cases hn
    | succ n =>
      simp only [rounds, nextO, hf] at hn
      exact hX.le f g hf _ _ (rounds_ev hX n) _ _ _ _ hn
  · obtain ⟨n, hn⟩ := hX.lim f g hf _ _ (ev_lim hX) _ _ _ _ e
    exact (ev_call_iff hX).2 ⟨n + 1, by simp only [rounds, nextO, hf]; exact hn⟩

theorem ev_loop {wl c s} : (ev T fns keep X).loop wl c s = run T (ev T fns keep X) wl (.loop c) s := by
  refine opt_ext fun r => ⟨fun e => ?_, fun e => ?_⟩
  · obtain ⟨n, hn⟩ := (ev_loop_iff hX).1 e
    cases n with
    | zero => cases hn
    | succ n => exact run_le (rounds_ev hX n) _ _ hn
  · obtain ⟨n, hn⟩ := run_lim (ev_lim hX) _ _ e
    exact (ev_loop_iff hX).2 ⟨n + 1, hn⟩
end
end Go.GL
