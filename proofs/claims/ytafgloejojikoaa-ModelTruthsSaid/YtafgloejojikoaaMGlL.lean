/-
  GL, part L: code.
-/
import Derived.Test.YtafgloejojikoaaMGlLi
set_option linter.unusedSimpArgs false
set_option linter.unusedVariables false
/-! GL, part L: code. -/
namespace Go.GL

section
variable {P : Program} {T : Tab} {O : Orc} {n : Nat} {ds : List Deferred} {W : Nat → Prop}

theorem Inv.pad {F : FM} {φ : PM} {w : World} {H : Heap} : ∀ (m : Nat) {L : List Blk}, Inv F φ (L :: H) w → Adv W F φ (L :: H) w F φ ((L ++ List.replicate m .gone) :: H) w ∧ Inv F φ ((L ++ List.replicate m .gone) :: H) w
  | 0, L, h => by simpa using ⟨Adv.refl W F φ (L :: H) w, h⟩
  | m + 1, L, h => by
    obtain ⟨a1, i1⟩ := h.skip (S' := (L ++ [.gone]) :: H) W (.inl (at_free L H)) rfl (at_push L H .gone)
    obtain ⟨a2, i2⟩ := Inv.pad m i1
    have e : L ++ List.replicate (m + 1) Blk.gone = L ++ [.gone] ++ List.replicate m .gone := by rw [List.replicate_succ, List.append_assoc]; rfl
    rw [e]
    exact ⟨a1.trans a2, i2⟩

theorem runOps_ok (hT : TOk P T) (hO : CallOk P O) {wl : Nat} {ops : Array Oper} (hwf : wfOps n ops = true) {Fs : FM} {φs : PM} {S : Heap} {ws : World} :
    ∀ (os : List Oper) (s : St) (a : Act) (w : World) (F : FM) (φ : PM) (ex : Ex) (s' : St), (∀ o ∈ os, ∀ d, o.dst = some d → d < n) → runOps T O wl ops os s = some (ex, s') → (∀ d, wl ≤ d ∨ d = s.depth → W d) →
      Adv W Fs φs S ws F φ s.stack w → Inv F φ s.stack w → EnvOk n ds F φ s a → wpList P ops (Outs W n ds Fs φs S ws ex s') os a w
  | [], s, a, w, F, φ, ex, s', _, h, _, hA, hI, hE => by
    simp only [runOps, Option.some.injEq, Prod.mk.injEq] at h
    obtain ⟨rfl, rfl⟩ := h
    exact ⟨F, φ, hA, hI, hE⟩
  | o :: os, s, a, w, F, φ, ex, s', hd, h, hW, hA, hI, hE => by
    unfold runOps at h
    refine wpList_step fun K hK => ?_
    have next : ∀ (v : PV) (s1 : St) (F' : FM) (φ' : PM) (w' : World) (u : Value), runOps T O wl ops os (s1.put o.dst v) = some (ex, s') → s1.env = s.env → Adv W F φ s.stack w F' φ' s1.stack w' → Inv F' φ' s1.stack w' → Rep F' φ' v u → K (a.put o.dst u) w' := by
      intro v s1 F' φ' w' u h1 h2 h3 h4 h5
      have p3 := s1.put_stack o.dst v
      refine hK _ _ (runOps_ok hT hO hwf os (s1.put o.dst v) _ w' F' φ' ex s' (fun o ho => hd o (by simp [ho])) h1 (fun d hdd => hW d (hdd.imp id fun e => ?_)) ?_ ?_ ?_)
      · have := h3.len
        simp only [St.stack, List.length_cons] at this
        unfold St.depth at e ⊢
        rw [p3.2.2] at e
        omega
      · rw [p3.1]; exact hA.trans h3
      · rw [p3.1]; exact h4
      · exact (hE.mono h3.fm h3.pm h2).put (hd o (by simp)) h5
    cases hw : wantedP ops o s with
    | none =>
      have : stepOp T O wl ops o s = none := by unfold stepOp; rw [hw]
      rw [this] at h
      cases h
    | some b =>
      rw [wantedP_ok hE hwf hw]
      cases b with
      | false =>
        have : stepOp T O wl ops o s = some (.val undefP, s) := by unfold stepOp; rw [hw]; rfl
        rw [this] at h
        exact next _ s F φ w undef h rfl (Adv.refl _ _ _ _ _) hI (rep_undef _ _)
      | true =>
        have : stepOp T O wl ops o s = opRun T O wl o s := by unfold stepOp; rw [hw]; rfl
        rw [this] at h
        cases hop : opRun T O wl o s with
        | none => rw [hop] at h; cases h
        | some q =>
          obtain ⟨r, s1⟩ := q
          rw [hop] at h
          obtain ⟨hst, henv⟩ := opRun_ok (a := a) hT hO hW hI hE hop
          refine hst K _ (fun p hp F' φ' w' u q1 q2 q3 => ?_) (fun p hp F' φ' w' u q1 q2 q3 => ?_)
          · subst hp
            exact next p s1 F' φ' w' u h henv q1 q2 q3
          · subst hp
            simp only [Option.some.injEq, Prod.mk.injEq] at h
            obtain ⟨rfl, rfl⟩ := h
            exact ⟨F', φ', hA.trans q1, q2, hE.mono q1.fm q1.pm henv, u, rfl, q3⟩

/-- From a loop's head on. -/
def HeadWp (P : Program) (c : Code) (Q : Exit → Act → World → Prop) (a : Act) (w : World) : Prop :=
  ∀ (b : Frame) (k : List Item) (cs : List Frame), ∃ e a' w', Q e a' w' ∧ Arrives P (lone (b.at a (.code c :: .inLoop c :: k)) cs w) b k cs e a' w'

theorem head_step {c : Code} {Q : Exit → Act → World → Prop} {a : Act} {w : World} (h : c.wp P (Exit.then (HeadWp P c Q) Q) a w) : HeadWp P c Q a w := by
  intro b k cs
  obtain ⟨e, a₁, w₁, hq, harr⟩ := h b (.inLoop c :: k) cs
  cases e with
  | normal =>
    obtain ⟨e₂, a₂, w₂, hq₂, harr₂⟩ := hq b k cs
    exact ⟨e₂, a₂, w₂, hq₂, .of_steps (Steps.trans harr (.one step_inLoop)) harr₂⟩
  | exit id => exact ⟨_, a₁, w₁, hq, .pass (x := .inLoop c) rfl (fun _ _ => .inl (by simp)) harr⟩
  | goto l => exact ⟨_, a₁, w₁, hq, .pass (x := .inLoop c) rfl (fun _ _ => .inl (by simp)) harr⟩
  | ret => exact ⟨_, a₁, w₁, hq, .pass (x := .inLoop c) rfl (fun _ _ => .inl (by simp)) harr⟩
  | panic ch => exact ⟨_, a₁, w₁, hq, .pass (x := .inLoop c) rfl (fun _ _ => .inl (by simp)) harr⟩
  | outgrown => exact ⟨_, a₁, w₁, hq, .pass (x := .inLoop c) rfl (fun _ _ => .inl (by simp)) harr⟩

theorem loop_of_head {c : Code} {Q : Exit → Act → World → Prop} {a : Act} {w : World} (h : HeadWp P c Q a w) : (Code.loop c).wp P Q a w := by
  intro b k cs
  obtain ⟨e, a', w', hq, harr⟩ := h b k cs
  exact ⟨e, a', w', hq, .of_steps (.one step_loop) harr⟩

def LoopOk (P : Program) (O : Orc) : Prop := ∀ wl c s ex s', O.loop wl c s = some (ex, s') → ∀ (n : Nat) (ds : List Deferred) (W : Nat → Prop) (F : FM) (φ : PM) (a : Act) (w : World), wfCode n c = true →
  (∀ d, wl ≤ d ∨ d = s.depth → W d) → Inv F φ s.stack w → EnvOk n ds F φ s a → HeadWp P c (Outs W n ds F φ s.stack w ex s') a w

variable (hT : TOk P T) (hO : CallOk P O) (hL : LoopOk P O) (hm : P.follows .mixedOrders = true)
include hT hO hL hm

theorem run_ok {wl : Nat} : ∀ (c : Code) (s : St) (ex : Ex) (s' : St) (F : FM) (φ : PM) (a : Act) (w : World), wfCode n c = true → run T O wl c s = some (ex, s') → (∀ d, wl ≤ d ∨ d = s.depth → W d) →
    Inv F φ s.stack w → EnvOk n ds F φ s a → c.wp P (Outs W n ds F φ s.stack w ex s') a w
  | .skip, s, ex, s', F, φ, a, w, hwf, h, hW, hI, hE => by
    simp only [run, Option.some.injEq, Prod.mk.injEq] at h
    obtain ⟨rfl, rfl⟩ := h
    exact wp_skip ⟨F, φ, Adv.refl _ _ _ _ _, hI, hE⟩
  | .exit id, s, ex, s', F, φ, a, w, hwf, h, hW, hI, hE => by
    simp only [run, Option.some.injEq, Prod.mk.injEq] at h
    obtain ⟨rfl, rfl⟩ := h
    exact wp_exit ⟨F, φ, Adv.refl _ _ _ _ _, hI, rfl, hE⟩
  | .ret, s, ex, s', F, φ, a, w, hwf, h, hW, hI, hE => by
    simp only [run, Option.some.injEq, Prod.mk.injEq] at h
    obtain ⟨rfl, rfl⟩ := h
    exact wp_ret ⟨F, φ, Adv.refl _ _ _ _ _, hI, hE⟩
  | .region id ops false, s, ex, s', F, φ, a, w, hwf, h, hW, hI, hE => by
    simp only [run] at h
    simp only [wfCode, Bool.and_eq_true] at hwf
    exact wp_region_list (runOps_ok hT hO hwf.1 ops.toList s a w F φ ex s' (fun o ho d hd => by
      obtain ⟨i, hi⟩ := List.getElem?_of_mem ho
      exact wf_dst hwf.1 (by simpa using hi) d hd) h hW (Adv.refl _ _ _ _ _) hI hE)
  | .region id ops true, s, ex, s', F, φ, a, w, hwf, h, hW, hI, hE => by
    simp only [run] at h
    simp only [wfCode, Bool.and_eq_true, Bool.not_true, Bool.false_or] at hwf
    rw [runDraw_idx T O wl ops s.L ops.toList 0 _ (by simp)] at h
    have hI1 : Inv F φ s.stack { w with drawn := w.drawn + 1 } := hI.same rfl
    obtain ⟨a2, i2⟩ := Inv.pad (W := W) ops.size hI1
    have hrests : rests ops (Array.replicate ops.size false) = List.range' 0 ops.toList.length := by
      unfold rests
      rw [List.filter_eq_self.2 (fun i hi => by
        have := List.mem_range.1 hi
        simp [Array.getD_eq_getD_getElem?, Array.getElem?_replicate, this]), List.range_eq_range']
      simp
    have a0 : Adv W F φ (s.L :: s.H) w F φ (s.L :: s.H) { w with drawn := w.drawn + 1 } := Adv.same rfl rfl rfl rfl
    refine wp_region_any hm (any_ok (P := P) (T := T) (O := O) (n := n) (ops := ops) (wl := wl) (W := W) (Fs := F) (φs := φ) (ws := w) (L0 := s.L) (H0 := s.H) hT hO hW hwf.2 hwf.1 ops.size (Array.replicate ops.size false) { s with L := s.L ++ List.replicate ops.size .gone } a { w with drawn := w.drawn + 1 } ex s' (by simp) (fun j o hj => by
      rw [Array.getD_eq_getD_getElem?, Array.getElem?_replicate] at hj
      split at hj <;> cases hj) (by rw [hrests]; exact h) ⟨F, φ, a0.trans a2, i2, ⟨hE.defers, hE.size, hE.rep⟩, rfl, fun i hi => ?_, fun _ => ⟨rfl, fun k hk => ?_, hI1⟩⟩ (by rw [hrests]; simp))
    · rw [hrests] at hi
      have := (List.mem_range'_1.1 hi).2
      simp only [Nat.zero_add, Array.length_toList] at this
      show (s.L ++ List.replicate ops.size Blk.gone)[s.L.length + i]? = _
      rw [List.getElem?_append_right (by omega)]
      simp [this]
    · show (s.L ++ List.replicate ops.size Blk.gone)[k]? = _
      rw [List.getElem?_append_left hk]
  | .seq x y, s, ex, s', F, φ, a, w, hwf, h, hW, hI, hE => by
    simp only [wfCode, Bool.and_eq_true] at hwf
    simp only [run] at h
    cases hx : run T O wl x s with
    | none => rw [hx] at h; cases h
    | some q =>
      obtain ⟨ex1, s1⟩ := q
      rw [hx] at h
      refine wp_seq (wp_mono (run_ok x s ex1 s1 F φ a w hwf.1 hx hW hI hE) fun e a1 w1 ho => ?_)
      by_cases hn : ex1 = .normal
      · subst hn
        simp only [] at h
        obtain ⟨F1, φ1, h1, h2, h3⟩ := ho
        obtain ⟨rfl, h3⟩ := h3.normal
        exact wp_mono (run_ok y s1 ex s' F1 φ1 a1 w1 hwf.2 h (by rw [depth_of h1]; exact hW) h2 h3) fun _ _ _ g => g.start h1
      · have he : (ex1, s1) = (ex, s') := by
          cases ex1 with
          | normal => exact absurd rfl hn
          | _ => simpa using h
        injection he with e1 e2
        subst e1 e2
        obtain ⟨F1, φ1, h1, h2, h3⟩ := ho
        exact then_other ⟨F1, φ1, h1, h2, h3⟩ (h3.other hn)
  | .cond c x y, s, ex, s', F, φ, a, w, hwf, h, hW, hI, hE => by
    simp only [wfCode, Bool.and_eq_true] at hwf
    simp only [run] at h
    cases hc : s.eval c with
    | bool t =>
      rw [hc] at h
      have hr := hE.eval c
      rw [hc] at hr
      refine wp_cond (rep_bool hr) ?_
      cases t with
      | true => exact run_ok x s ex s' F φ a w hwf.1 h hW hI hE
      | false => exact run_ok y s ex s' F φ a w hwf.2 h hW hI hE
    | _ => rw [hc] at h; cases h
  | .block id c, s, ex, s', F, φ, a, w, hwf, h, hW, hI, hE => by
    simp only [wfCode] at hwf
    simp only [run] at h
    cases hx : run T O wl c s with
    | none => rw [hx] at h; cases h
    | some q =>
      obtain ⟨ex1, s1⟩ := q
      rw [hx] at h
      refine wp_block (wp_mono (run_ok c s ex1 s1 F φ a w hwf hx hW hI hE) fun e a1 w1 ho => ?_)
      obtain ⟨F1, φ1, h1, h2, h3⟩ := ho
      cases ex1 with
      | exit id1 =>
        simp only [] at h
        cases e with
        | exit id2 =>
          obtain ⟨rfl, h3⟩ := h3
          simp only [Exit.inBlock]
          split at h <;> rename_i hid
          · rw [if_pos hid]
            simp only [Option.some.injEq, Prod.mk.injEq] at h
            obtain ⟨rfl, rfl⟩ := h
            exact ⟨F1, φ1, h1, h2, h3⟩
          · rw [if_neg hid]
            simp only [Option.some.injEq, Prod.mk.injEq] at h
            obtain ⟨rfl, rfl⟩ := h
            exact ⟨F1, φ1, h1, h2, rfl, h3⟩
        | _ => exact h3.elim
      | _ =>
        simp only [Option.some.injEq, Prod.mk.injEq] at h
        obtain ⟨rfl, rfl⟩ := h
        cases e with
        | exit id2 => exact h3.elim
        | _ => exact ⟨F1, φ1, h1, h2, h3⟩
  | .loop c, s, ex, s', F, φ, a, w, hwf, h, hW, hI, hE => by
    simp only [wfCode] at hwf
    simp only [run] at h
    cases hx : run T O wl c s with
    | none => rw [hx] at h; cases h
    | some q =>
      obtain ⟨ex1, s1⟩ := q
      rw [hx] at h
      refine loop_of_head (head_step (wp_mono (run_ok c s ex1 s1 F φ a w hwf hx hW hI hE) fun e a1 w1 ho => ?_))
      by_cases hn : ex1 = .normal
      · subst hn
        simp only [] at h
        obtain ⟨F1, φ1, h1, h2, h3⟩ := ho
        obtain ⟨rfl, h3⟩ := h3.normal
        intro b k cs
        obtain ⟨e, a', w', hq, harr⟩ := hL wl c s1 ex s' h n ds W F1 φ1 a1 w1 hwf (by rw [depth_of h1]; exact hW) h2 h3 b k cs
        exact ⟨e, a', w', hq.start h1, harr⟩
      · have he : (ex1, s1) = (ex, s') := by
          cases ex1 with
          | normal => exact absurd rfl hn
          | _ => simpa using h
        injection he with e1 e2
        subst e1 e2
        obtain ⟨F1, φ1, h1, h2, h3⟩ := ho
        exact then_other ⟨F1, φ1, h1, h2, h3⟩ (h3.other hn)
  | .label .., _, _, _, _, _, _, _, hwf, _, _, _, _ => by cases hwf
  | .rangeFunc .., _, _, _, _, _, _, _, hwf, _, _, _, _ => by cases hwf
  | .goto .., _, _, _, _, _, _, _, hwf, _, _, _, _ => by cases hwf

end
end Go.GL
