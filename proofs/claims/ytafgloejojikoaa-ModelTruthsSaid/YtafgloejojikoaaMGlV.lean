/-
  GL, part V: all operations that touch no state.
-/
import Derived.Test.YtafgloejojikoaaMGlMp
set_option linter.unusedSimpArgs false
set_option linter.unusedVariables false
/-! GL, part V: all operations that touch no state. -/
namespace Go.GL

section
variable {P : Program} {T : Tab} {F : FM} {φ : PM} {S : Heap} {w : World}

theorem TellsN.ok {x : Sem Next} {p : PV} {u : Value} (h : x.run P w = .ok (.value u) w) (hr : Rep F φ p u) : TellsN P F φ w x (.val p) := ⟨u, h, hr⟩

theorem pairs_ok {s : St} {ρ : Operand → Value} (he : ∀ x, Rep F φ (s.eval x) (ρ x)) (l : List (Nat × Operand)) :
    (l.map fun p => (p.1, s.eval p.2)).length = (l.map fun p => (p.1, ρ p.2)).length ∧
    ∀ (j : Nat) (p : Nat × PV) (v : Nat × Value), (l.map fun p => (p.1, s.eval p.2))[j]? = some p → (l.map fun p => (p.1, ρ p.2))[j]? = some v → p.1 = v.1 ∧ Rep F φ p.2 v.2 := by
  refine ⟨by simp, fun j p v hp hv => ?_⟩
  rw [List.getElem?_map] at hp hv
  obtain ⟨q, h1, rfl⟩ := Option.map_eq_some_iff.1 hp
  obtain ⟨q', h2, rfl⟩ := Option.map_eq_some_iff.1 hv
  rw [h1] at h2
  injection h2 with h2
  subst h2
  exact ⟨rfl, he _⟩

theorem listRep {s : St} {ρ : Operand → Value} (he : ∀ x, Rep F φ (s.eval x) (ρ x)) (l : List Operand) :
    (l.map ρ).length = (l.map s.eval).length ∧ ∀ (j : Nat) (c : PV) (v : Value), (l.map s.eval)[j]? = some c → (l.map ρ)[j]? = some v → Rep F φ c v := by
  refine ⟨by simp, fun j c v hc hv => ?_⟩
  rw [List.getElem?_map] at hc hv
  obtain ⟨q, h1, rfl⟩ := Option.map_eq_some_iff.1 hc
  obtain ⟨q', h2, rfl⟩ := Option.map_eq_some_iff.1 hv
  rw [h1] at h2
  injection h2 with h2
  subst h2
  exact he _

theorem build_ok (hT : TOk P T) {t : Nat} {ti : TI} {fs : List (Nat × Nat)} (ht : T t = some ti) (htd : ti.td = .struct fs) (hall : fs.all (fun f => (T f.2).isSome) = true) {s : St} {ρ : Operand → Value} (he : ∀ x, Rep F φ (s.eval x) (ρ x))
    {parts : Array (Nat × Operand)} {cs : List PV} (h : fillS T fs ti.size (parts.toList.map fun p => (p.1, s.eval p.2)) (cellsOf ti.zero) = some cs) :
    ∃ u, (Instr.build t (parts.map fun (i, x) => (i, ρ x))).run P w = .ok u w ∧ Rep F φ (.agg cs) u := by
  obtain ⟨D, hD, hr, hfs⟩ := td_struct hT ht htd w
  obtain ⟨i, hi, hsz, hby, hzero⟩ := hT.typeInfo_run ht
  have hplaces : ∃ places, D.toList.mapM (fun f => (P.info? f.type).map fun i => (f.offset, i.size)) = some places ∧ ∀ (j off t : Nat) (ti : TI), fs[j]? = some (off, t) → T t = some ti → places[j]? = some (off, ti.size) := by
    clear h hD hr
    subst hfs
    generalize D.toList = l at *
    clear htd ht hi hsz hby hzero
    induction l with
    | nil => exact ⟨[], rfl, by simp⟩
    | cons f l ih =>
      simp only [List.map_cons, List.all_cons, Bool.and_eq_true] at hall
      obtain ⟨h1, h2⟩ := hall
      obtain ⟨pl, h3, h4⟩ := ih h2
      obtain ⟨fti, hft⟩ := Option.isSome_iff_exists.1 h1
      obtain ⟨fi, hfi, hfs', _⟩ := hT.typeInfo_run hft
      refine ⟨(f.offset, fi.size) :: pl, by simp [List.mapM_cons, hfi, h3], fun j off t ti hj htj => ?_⟩
      cases j with
      | zero =>
        simp only [List.map_cons, List.getElem?_cons_zero, Option.some.injEq, Prod.mk.injEq] at hj
        obtain ⟨rfl, rfl⟩ := hj
        rw [hft] at htj
        injection htj with htj
        subst htj
        simp [hfs']
      | succ j =>
        simp only [List.map_cons, List.getElem?_cons_succ] at hj ⊢
        exact h4 j off t ti hj htj
  obtain ⟨places, hp1, hp2⟩ := hplaces
  obtain ⟨_, hzok, hzl, _⟩ := hT.ok t ti ht
  obtain ⟨fl1, fl2⟩ := zeroOk_flat hzok
  obtain ⟨g1, g2⟩ := (rep_zero F φ hzok).cells fl1 fl2
  obtain ⟨l1, l2⟩ := pairs_ok he parts.toList
  obtain ⟨C, hC, hrc⟩ := fillS_ok hT hp2 _ _ _ cs _ l1 l2 hzl ⟨g1, g2⟩ h
  refine ⟨.agg C, run_build w t _ C ?_, ?_⟩
  · unfold Program.built
    have e : (parts.map fun (x : Nat × Operand) => (x.1, ρ x.2)).toList = parts.toList.map fun p => (p.1, ρ p.2) := by simp
    simp only [hi, hD, hzero, hp1]
    rw [e]
    exact hC
  · exact .agg cs C hrc.1 (fun c hc => by
      obtain ⟨j, hj⟩ := List.getElem?_of_mem hc
      exact (hrc.2 j c hj).1) fun j c v hc hv => by
      obtain ⟨_, v', h1, h2⟩ := hrc.2 j c hc
      rw [h1] at hv
      injection hv with hv
      subst hv
      exact h2

theorem rep_tup {l : List PV} {v : Value} (h : Rep F φ (.tup l) v) : ∃ vs, v = .tuple vs ∧ vs.size = l.length ∧ ∀ (j : Nat) (c : PV) (v : Value), l[j]? = some c → vs[j]? = some v → Rep F φ c v := by
  cases h with
  | data p v hl h => simp [isLeaf] at hl
  | tup cs vs hl h => exact ⟨vs, rfl, hl, h⟩

theorem pureOp_ok (hT : TOk P T) (hI : Inv F φ S w) {o : Oper} {s : St} {ρ : Operand → Value} (he : ∀ x, Rep F φ (s.eval x) (ρ x)) {r : OpR} (h : pureOp T o s S = some r) : TellsN P F φ w (execOp ρ o) r := by
  obtain ⟨dst, op, ty, pos, after, gd⟩ := o
  cases op with
  | move x =>
    simp only [pureOp, Option.some.injEq] at h; subst h
    exact ⟨ρ x, by simp [execOp], he x⟩
  | assign x =>
    simp only [pureOp, Option.some.injEq] at h; subst h
    exact ⟨ρ x, by simp [execOp], he x⟩
  | pick c a b =>
    simp only [pureOp] at h
    cases hc : s.eval c with
    | bool t =>
      rw [hc] at h
      simp only [Option.some.injEq] at h; subst h
      have := he c
      rw [hc] at this
      have hv := rep_bool this
      cases t with
      | true => exact ⟨ρ a, by simp [execOp, hv, asBool], he a⟩
      | false => exact ⟨ρ b, by simp [execOp, hv, asBool], he b⟩
    | _ => rw [hc] at h; cases h
  | build t parts =>
    simp only [pureOp] at h
    cases ht : T t with
    | none => rw [ht] at h; cases h
    | some ti =>
      rw [ht] at h
      simp only [] at h
      split at h
      · rename_i fs htd
        split at h
        · rename_i hall
          obtain ⟨cs, hcs, rfl⟩ := Option.map_eq_some_iff.1 h
          obtain ⟨u, hu, hr⟩ := build_ok (w := w) hT ht htd hall he hcs
          exact ⟨u, by simp only [execOp, Sem.run_bind, hu, Result.andThen_ok, Sem.run_pure], hr⟩
        · cases h
      · cases h
  | load t a =>
    simp only [pureOp] at h
    obtain ⟨p, hp, rfl⟩ := Option.map_eq_some_iff.1 h
    obtain ⟨u, hu, hr⟩ := loadP_ok hT hI (he a) hp
    exact ⟨u, by simp only [execOp, Sem.run_bind, hu, Result.andThen_ok, Sem.run_pure], hr⟩
  | lookup t x y ok =>
    simp only [pureOp] at h
    have := (lookup_ok hT hI (he x) (he y) h).next
    simpa only [execOp] using this
  | nilCheck x =>
    simp only [pureOp] at h
    have hx := he x
    split at h <;> (try (injection h with h; subst h)) <;> rename_i heq
    · rw [heq] at hx
      have hv : ρ x = .pointer none := by
        generalize ρ x = u at hx
        cases hx with
        | data p v hl h => simp [isLeaf] at hl
        | nilp => rfl
      exact ⟨.iface P.rt.errorString (strVal "invalid memory address or nil pointer dereference"), w, by simp [execOp, hv, runtimePanic], Quiet.refl w, .junk _⟩
    · rw [heq] at hx
      generalize hu : ρ x = u at hx
      cases hx with
      | data p v hl h => simp [isLeaf] at hl
      | ptr d k off b S hp => exact ⟨_, by simp [execOp, hu], .ptr _ _ _ _ _ hp⟩
    · rw [heq] at hx
      generalize hu : ρ x = u at hx
      cases hx with
      | data p v hl h => simp [isLeaf] at hl
      | rptr cs off b o cv h1 hF hR => exact ⟨_, by simp [execOp, hu], .rptr _ _ _ _ _ h1 hF hR⟩
    · cases h
  | binOp op t x y u =>
    simp only [pureOp] at h
    exact (binOp_ok hT (he x) (he y) h).next
  | unOp op t x =>
    simp only [pureOp] at h
    have hx := he x
    split at h <;> (try (injection h with h; subst h)) <;> rename_i heq
    · rw [heq] at hx
      exact ⟨_, by simp [execOp, rep_bool hx, Op.unary], .bool' _⟩
    · rw [heq] at hx
      exact ⟨_, by simp [execOp, rep_int hx, Op.unary, Op.intArith], .int' _ _⟩
    · cases h
  | convert src dst x =>
    simp only [pureOp] at h
    have hx := he x
    split at h
    · rename_i si ti k n h1 h2 heq
      rw [heq] at hx
      have hv := rep_int hx
      obtain ⟨D1, _, hr1, _⟩ := hT.und_run h1 w
      obtain ⟨D2, _, hr2, hd2⟩ := hT.und_run h2 w
      split at h
      · rename_i k' htd
        injection h with h; subst h
        have hD : D2 = .int k' := by rw [htd] at hd2; cases D2 <;> simp [tdOf] at hd2; rw [hd2]
        subst hD
        exact ⟨_, by simp [execOp, convert, hr1, hr2, hv, Conv.intToInt], .int' _ _⟩
      · cases h
    · rename_i si ti b h1 h2 heq
      rw [heq] at hx
      have hv := rep_str hx
      obtain ⟨D1, _, hr1, _⟩ := hT.und_run h1 w
      obtain ⟨D2, _, hr2, hd2⟩ := hT.und_run h2 w
      split at h
      · rename_i htd
        injection h with h; subst h
        have hD : D2 = .string := by rw [htd] at hd2; cases D2 <;> first | rfl | simp [tdOf] at hd2
        subst hD
        exact ⟨_, by cases D1 <;> simp [execOp, convert, hr1, hr2, hv], .str' _⟩
      · cases h
    · cases h
  | makeInterface t x =>
    simp only [pureOp] at h
    cases ht : T t with
    | none => rw [ht] at h; cases h
    | some ti =>
      rw [ht] at h
      simp only [] at h
      split at h
      · cases h
      · rename_i hn
        injection h with h; subst h
        obtain ⟨D, _, hr, hd⟩ := hT.und_run ht w
        have hne : ∀ ms, D ≠ .interface ms := by
          rintro ms rfl
          exact hn (.inl hd.symm)
        have hdat : isData (s.eval x) = true := by
          cases hx : isData (s.eval x) with
          | true => rfl
          | false => exact absurd (.inr hx) hn
        refine ⟨.iface t (ρ x), ?_, .data _ _ rfl (.iface t _ _ ((he x).data_of hdat))⟩
        simp only [execOp, Sem.run_bind, Instr.makeInterface, hr, Result.andThen_ok]
        first | rfl | (split <;> first | exact absurd rfl (hne _) | rfl)
  | makeFunc f a b =>
    simp only [pureOp, Option.some.injEq] at h; subst h
    obtain ⟨a1, a2⟩ := listRep he a.toList
    obtain ⟨b1, b2⟩ := listRep he b.toList
    refine ⟨.func f (a.map ρ) (b.map ρ), by simp [execOp, Instr.makeFunc], .func _ _ _ _ _ (by simp) (by simp) (fun j c v hc hv => a2 j c v hc (by simpa using hv)) (fun j c v hc hv => b2 j c v hc (by simpa using hv))⟩
  | fieldAddr t x f =>
    simp only [pureOp] at h
    have hx := he x
    cases ht : T t with
    | none => rw [ht] at h; cases h
    | some ti =>
      rw [ht] at h
      simp only [] at h
      split at h
      · rename_i fs htd
        split at h
        · rename_i off ft hf
          cases hft : T ft with
          | none => rw [hft] at h; cases h
          | some fti =>
            rw [hft] at h
            simp only [] at h
            split at h
            · cases h
            · rename_i hz
              split at h <;> (try (injection h with h; subst h)) <;> rename_i heq
              · rw [heq] at hx
                generalize hu : ρ x = u at hx
                cases hx with
                | data p v hl h => simp [isLeaf] at hl
                | ptr d k o b S hp => exact ⟨_, by simp only [execOp, hu, Sem.run_bind, fieldAddr_ok hT ht htd hf hft hz, Result.andThen_ok, Sem.run_pure], .ptr _ _ _ _ _ hp⟩
              · rw [heq] at hx
                generalize hu : ρ x = u at hx
                cases hx with
                | data p v hl h => simp [isLeaf] at hl
                | eptr d k n i o b S sz hp hzz =>
                  refine TellsN.ok (by simp only [execOp, hu, Sem.run_bind, fieldAddr_ok hT ht htd hf hft hz, Result.andThen_ok, Sem.run_pure]; rfl) ?_
                  rw [Nat.add_assoc]; exact .eptr _ _ _ _ _ _ _ _ hp hzz
              · rw [heq] at hx
                generalize hu : ρ x = u at hx
                cases hx with
                | data p v hl h => simp [isLeaf] at hl
                | rptr cs o b o0 cv h1 hF hR =>
                  refine TellsN.ok (by simp only [execOp, hu, Sem.run_bind, fieldAddr_ok hT ht htd hf hft hz, Result.andThen_ok, Sem.run_pure]; rfl) ?_
                  rw [Nat.add_assoc]; exact .rptr _ _ _ _ _ h1 hF hR
              · cases h
        · cases h
      · cases h
  | field t x f =>
    simp only [pureOp] at h
    have hx := he x
    split at h
    · rename_i ti cs ht heq
      rw [heq] at hx
      obtain ⟨C, hv, hrc⟩ := rep_agg hx
      split at h
      · rename_i fs htd
        split at h
        · rename_i off ft hf
          cases hft : T ft with
          | none => rw [hft] at h; cases h
          | some fti =>
            rw [hft] at h
            simp only [] at h
            obtain ⟨p, hp, rfl⟩ := Option.map_eq_some_iff.1 h
            obtain ⟨D, hD, hr, hfs⟩ := td_struct hT ht htd w
            obtain ⟨fd, h1, h2, h3⟩ := field_of hfs hf
            subst h2 h3
            obtain ⟨u, hu, hru⟩ := run_part (w := w) hT hft hrc hp
            exact ⟨u, by simp [execOp, hv, Instr.field, hr, h1, asAgg, hu], hru⟩
        · cases h
      · cases h
    · cases h
  | indexAddr t x i =>
    simp only [pureOp] at h
    exact (indexP_ok hT hI (he x) (he i) h).next
  | index t x i =>
    simp only [pureOp] at h
    have hx := he x
    have hi := he i
    split at h
    · rename_i ti b k n ht heq heq2
      rw [heq] at hx
      rw [heq2] at hi
      have hv := rep_str hx
      have hn := rep_int hi
      split at h
      · rename_i htd
        obtain ⟨D, _, hr, hd⟩ := hT.und_run ht w
        have hD : D = .string := by rw [htd] at hd; cases D <;> first | rfl | simp [tdOf] at hd
        subst hD
        split at h <;> rename_i hc <;> (injection h with h; subst h)
        · refine ⟨.int .u8 (b[n.toNat]'hc.2).toNat, ?_, .int' _ _⟩
          simp [execOp, hv, hn, Instr.index, asIntOf, hr, hc.1, hc.2]
        · obtain ⟨u, w', hb, hq⟩ := run_bounds P w (α := Value) k n b.size .index
          refine ⟨u, w', ?_, hq, .junk _⟩
          have : (if 0 ≤ n then b[n.toNat]? else none) = none := by
            split
            · rename_i h0
              have : ¬ n.toNat < b.size := fun h1 => hc ⟨h0, h1⟩
              simp [this]
            · rfl
          simp [execOp, hv, hn, Instr.index, asIntOf, hr, this, hb]
      · cases h
    · cases h
  | slice t x lo hi m =>
    cases m with
    | some m => simp only [pureOp] at h; cases h
    | none =>
      simp only [pureOp, sliceP] at h
      have hx := he x
      have opt : ∀ (y : Option Operand), (∀ p, y.map s.eval = some p → ∃ v, y.map ρ = some v ∧ Rep F φ p v) ∧ (y.map s.eval = none → y.map ρ = none) := by
        intro y
        cases y with
        | none => exact ⟨by simp, by simp⟩
        | some y => exact ⟨fun p hp => by simp at hp; subst hp; exact ⟨ρ y, rfl, he y⟩, by simp⟩
      cases ht : T t with
      | none => rw [ht] at h; cases h
      | some ti =>
        rw [ht] at h
        simp only [] at h
        split at h
        · rename_i b htd heq
          rw [heq] at hx
          have hv := rep_str hx
          have := strCut_ok (w := w) hT ht htd (opt lo).1 (opt lo).2 (opt hi).1 (opt hi).2 h
          rw [← hv] at this
          exact this.next
        · rename_i e full xs htd heq
          rw [heq] at hx
          cases hte : T e with
          | none => rw [hte] at h; cases h
          | some ei =>
            rw [hte] at h
            exact (lstCut_ok (w := w) hT ht htd hte hx (opt lo).1 (opt lo).2 (opt hi).1 (opt hi).2 h).next
        · cases h
  | extract x j =>
    simp only [pureOp] at h
    have hx := he x
    cases hc : s.eval x with
    | tup vs =>
      rw [hc] at h hx
      simp only [] at h
      obtain ⟨p, hp, rfl⟩ := Option.map_eq_some_iff.1 h
      obtain ⟨us, hu, hl, hr⟩ := rep_tup hx
      have hlt : j < us.size := by
        have := (List.getElem?_eq_some_iff.1 hp).1
        omega
      exact ⟨us[j], by simp [execOp, hu, Instr.extract, hlt], hr j p _ hp (by simp [hlt])⟩
    | _ => rw [hc] at h; cases h
  | panic x =>
    simp only [pureOp] at h
    have hx := he x
    cases hc : s.eval x with
    | iface t v =>
      rw [hc] at h hx
      simp only [Option.some.injEq] at h; subst h
      generalize hu : ρ x = u at hx
      cases hx with
      | data p v hl h =>
        cases h with
        | iface t p v h => exact ⟨_, w, by simp [execOp, hu, Instr.panic], Quiet.refl w, .data _ _ rfl (.iface _ _ _ h)⟩
    | _ => rw [hc] at h; cases h
  | call c =>
    obtain ⟨callee, args, tys⟩ := c
    cases callee with
    | builtin b =>
      cases b with
      | len =>
        simp only [pureOp] at h
        split at h
        · rename_i x ti hargs hti
          obtain ⟨n, hn, rfl⟩ := Option.map_eq_some_iff.1 h
          obtain ⟨t, ht0, ht⟩ := Option.bind_eq_some_iff.1 hti
          obtain ⟨D, _, hr, hd⟩ := hT.und_run ht w
          have ha : ∃ y, args.toList = [y] ∧ s.eval y = x := by
            cases hl : args.toList with
            | nil => rw [hl] at hargs; cases hargs
            | cons y l =>
              rw [hl] at hargs
              simp only [List.map_cons, List.cons.injEq, List.map_eq_nil_iff] at hargs
              exact ⟨y, by rw [hargs.2], hargs.1⟩
          obtain ⟨y, hy, rfl⟩ := ha
          have hargs' : args = #[y] := by
            apply Array.ext'
            simpa using hy
          subst hargs'
          have hx := he y
          have ht0' : tys[0]? = some t := by simpa using ht0
          unfold lenP at hn
          split at hn
          case h_4 =>
            rename_i htd heq
            rw [heq] at hx
            have hr' := td_map hT ht htd w
            injection hn with hn; subst hn
            exact ⟨_, by simp [execOp, resolve, invoke, builtin, Builtin.len_, ht0', hr', rep_nilm hx, goInt], .int' _ _⟩
          · rename_i e full xs htd heq
            injection hn with hn; subst hn
            rw [heq] at hx
            obtain ⟨a, b, o, cap, sz, cv, hv, _⟩ := rep_lst hx
            have hD : D = .slice e := by rw [htd] at hd; cases D <;> simp [tdOf] at hd; rw [hd]
            subst hD
            exact ⟨_, by simp [execOp, resolve, invoke, builtin, Builtin.len_, ht0', hr, hv, goInt], .int' _ _⟩
          · rename_i e d k n sz htd heq
            injection hn with hn; subst hn
            rw [heq] at hx
            have hD : D = .slice e := by rw [htd] at hd; cases D <;> simp [tdOf] at hd; rw [hd]
            subst hD
            generalize hu : ρ y = u at hx
            cases hx with
            | data p v hl h => simp [isLeaf] at hl
            | own d k n sz b S cap hp hn hS => exact ⟨_, by simp [execOp, resolve, invoke, builtin, Builtin.len_, ht0', hr, hu, goInt], .int' _ _⟩
          · rename_i b htd heq
            injection hn with hn; subst hn
            rw [heq] at hx
            have hv := rep_str hx
            have hD : D = .string := by rw [htd] at hd; cases D <;> first | rfl | simp [tdOf] at hd
            subst hD
            exact ⟨_, by simp [execOp, resolve, invoke, builtin, Builtin.len_, ht0', hr, hv, goInt], .int' _ _⟩
          · cases hn
        · cases h
      | min =>
        simp only [pureOp] at h
        split at h
        · rename_i k a k' b hargs
          injection h with h; subst h
          obtain ⟨l1, l2⟩ := listRep he args.toList
          rw [hargs] at l1 l2
          match hl : args.toList with
          | [y, z] =>
            have hargs' : args = #[y, z] := by apply Array.ext'; simpa using hl
            subst hargs'
            have h1 := rep_int (l2 0 _ (ρ y) rfl rfl)
            have h2 := rep_int (l2 1 _ (ρ z) rfl rfl)
            exact ⟨_, by simp [execOp, resolve, invoke, builtin, Builtin.min_, Builtin.min2, h1, h2], .int' _ _⟩
          | [] => rw [hl] at l1; simp at l1
          | [_] => rw [hl] at l1; simp at l1
          | _ :: _ :: _ :: _ => rw [hl] at l1; simp at l1
        · cases h
      | max =>
        simp only [pureOp] at h
        split at h
        · rename_i k a k' b hargs
          injection h with h; subst h
          obtain ⟨l1, l2⟩ := listRep he args.toList
          rw [hargs] at l1 l2
          match hl : args.toList with
          | [y, z] =>
            have hargs' : args = #[y, z] := by apply Array.ext'; simpa using hl
            subst hargs'
            have h1 := rep_int (l2 0 _ (ρ y) rfl rfl)
            have h2 := rep_int (l2 1 _ (ρ z) rfl rfl)
            exact ⟨_, by simp [execOp, resolve, invoke, builtin, Builtin.max_, Builtin.max2, h1, h2], .int' _ _⟩
          | [] => rw [hl] at l1; simp at l1
          | [_] => rw [hl] at l1; simp at l1
          | _ :: _ :: _ :: _ => rw [hl] at l1; simp at l1
        · cases h
      | _ => simp only [pureOp] at h; cases h
    | _ => simp only [pureOp] at h; cases h
  | typeAssert x xt asserted ok =>
    simp only [pureOp] at h
    cases ht : T asserted with
    | none => rw [ht] at h; cases h
    | some ti =>
      rw [ht] at h
      have hx := he x
      split at h
      · rename_i ti' t v heq hxe
        injection heq with heq
        subst heq
        rw [hxe] at hx
        obtain ⟨u, hu, hv⟩ := rep_iface hx
        split at h
        · cases h
        · rename_i hn
          have hok : ok = true := by
            cases ok with
            | true => rfl
            | false => exact absurd (.inl rfl) hn
          subst hok
          obtain ⟨D, _, hr, hd⟩ := hT.und_run ht w
          have hne : ∀ ms, D ≠ .interface ms := by
            rintro ms rfl
            exact hn (.inr hd.symm)
          have hz := hT.run_zero ht w
          have hzr := rep_zero F φ (hT.ok _ _ ht).2.1
          split at h
          · rename_i hta
            subst hta
            injection h with h; subst h
            refine ⟨.tuple #[u, .bool true], ?_, .tup _ _ (by simp) (fun j c v hc hv' => ?_)⟩
            · simp only [execOp, Sem.run_bind, Instr.typeAssert, hr, hu, Result.andThen_ok]
              cases D <;> first | exact absurd rfl (hne _) | simp
            · match j with
              | 0 => simp at hc hv'; subst hc hv'; exact .of_data hv
              | 1 => simp at hc hv'; subst hc hv'; exact .data _ _ rfl (.bool true)
              | j + 2 => simp at hc
          · rename_i hta
            injection h with h; subst h
            refine ⟨.tuple #[zeroV ti.zero, .bool false], ?_, .tup _ _ (by simp) (fun j c v hc hv' => ?_)⟩
            · simp only [execOp, Sem.run_bind, Instr.typeAssert, hr, hu, Result.andThen_ok]
              cases D <;> first | exact absurd rfl (hne _) | simp [hta, hz]
            · match j with
              | 0 => simp at hc hv'; subst hc hv'; exact hzr
              | 1 => simp at hc hv'; subst hc hv'; exact .data _ _ rfl (.bool false)
              | j + 2 => simp at hc
      · cases h
  | _ => simp only [pureOp] at h; cases h

end
end Go.GL
