/-
  GL, part K: regions.
-/
import Derived.Test.YtafgloejojikoaaMGlJ
set_option linter.unusedSimpArgs false
set_option linter.unusedVariables false
/-! GL, part K: regions. -/
namespace Go.GL

def RelEx (n : Nat) (ds : List Deferred) (F : FM) (φ : PM) (s : St) (a : Act) : Ex → Exit → Prop
  | .normal, .normal => EnvOk n ds F φ s a
  | .exit id, .exit id' => id' = id ∧ EnvOk n ds F φ s a
  | .ret, .ret => EnvOk n ds F φ s a
  | .panic p, .panic c => EnvOk n ds F φ s a ∧ ∃ v, c = [{ v, recovered := false }] ∧ Rep F φ p v
  | _, _ => False

/-- Where code comes out. -/
def Outs (W : Nat → Prop) (n : Nat) (ds : List Deferred) (Fs : FM) (φs : PM) (S : Heap) (ws : World) (ex : Ex) (s' : St) : Exit → Act → World → Prop := fun e a' w' =>
  ∃ F' φ', Adv W Fs φs S ws F' φ' s'.stack w' ∧ Inv F' φ' s'.stack w' ∧ RelEx n ds F' φ' s' a' ex e

section
variable {P : Program} {T : Tab} {O : Orc} {n : Nat} {ds : List Deferred} {F : FM} {φ : PM} {w : World} {a : Act}

theorem wantedP_ok {s : St} {ops : Array Oper} {o : Oper} {b : Bool} (hE : EnvOk n ds F φ s a) (hwf : wfOps n ops = true) (h : wantedP ops o s = some b) : Region.wanted o (yielded ops a.tmps) = b := by
  unfold wantedP at h
  unfold Region.wanted
  cases hg : o.guard with
  | none =>
    rw [hg] at h
    injection h
  | some gw =>
    obtain ⟨j, want⟩ := gw
    rw [hg] at h
    simp only [] at h ⊢
    unfold guardP at h
    unfold yielded
    cases hd : (ops[j]?).bind (·.dst) with
    | none =>
      rw [hd] at h
      simp only [Option.map_none, Option.some.injEq] at h
      subst h
      rfl
    | some d =>
      rw [hd] at h
      simp only [Option.map_some, Option.bind_some] at h ⊢
      have hdn : d < n := by
        obtain ⟨oj, hoj, hdst⟩ := Option.bind_eq_some_iff.1 hd
        unfold wfOps at hwf
        have := Array.all_eq_true_iff_forall_mem.1 hwf oj (Array.mem_of_getElem? hoj)
        rw [hdst] at this
        simpa using this
      have hlt : d < a.tmps.size := by rw [hE.size]; exact hdn
      have hr := hE.rep d
      have hget : a.tmps.getD d undef = a.tmps[d] := by rw [Array.getD_eq_getD_getElem?, Array.getElem?_eq_getElem hlt]; rfl
      rw [hget] at hr
      rw [Array.getElem?_eq_getElem hlt]
      generalize a.tmps[d] = v at hr
      split at h
      · rename_i b' hb
        injection hb with hb
        rw [hb] at hr
        have := rep_bool hr
        subst this
        injection h
      · cases h
      · rename_i hnb hnj
        injection h with h
        subst h
        generalize s.env d = p at hr hnb hnj
        cases v with
        | bool b' =>
          cases hr with
          | data p v hl h => cases h with
            | bool => exact (hnb _ rfl).elim
          | junk v => exact (hnj rfl).elim
        | _ => rfl

theorem wf_dst {ops : Array Oper} {i : Nat} {o : Oper} (hwf : wfOps n ops = true) (ho : ops[i]? = some o) : ∀ d, o.dst = some d → d < n := by
  intro d hd
  unfold wfOps at hwf
  have := Array.all_eq_true_iff_forall_mem.1 hwf o (Array.mem_of_getElem? ho)
  rw [hd] at this
  simpa using this

theorem setS_top {L L' : List Blk} {H H' : Heap} {d k : Nat} {B : Blk} (h : setS (L :: H) d k B = L' :: H') : L'.length = L.length := by
  unfold setS at h
  split at h
  · injection h with h1 h2; rw [← h1]; simp
  · injection h with h1 h2; rw [← h1]

theorem storeS_shape {wl t : Nat} {x y : PV} {S S' : Heap} (h : storeS T wl t x y S = some S') : ∃ d k B0 B, atS S d k = some B0 ∧ B0 ≠ .gone ∧ S' = setS S d k B := by
  unfold storeS at h
  cases ht : T t with
  | none => rw [ht] at h; cases h
  | some ti =>
    rw [ht] at h
    simp only [] at h
    split at h
    · cases h
    · split at h
      · rename_i d k off
        split at h
        · cases hB : atS S d k with
          | none => rw [hB] at h; cases h
          | some B =>
            rw [hB] at h
            cases B with
            | box cs =>
              simp only [] at h
              split at h
              · injection h with h; exact ⟨d, k, _, _, hB, by simp, h.symm⟩
              · cases h
            | _ => cases h
        · cases h
      · rename_i d k n i off
        split at h
        · cases hB : atS S d k with
          | none => rw [hB] at h; cases h
          | some B =>
            rw [hB] at h
            cases B with
            | arr live sz xs =>
              cases live with
              | false => cases h
              | true =>
                simp only [] at h
                split at h
                · split at h
                  · injection h with h; exact ⟨d, k, _, _, hB, by simp, h.symm⟩
                  · split at h
                    · injection h with h; exact ⟨d, k, _, _, hB, by simp, h.symm⟩
                    · cases h
                · cases h
            | _ => cases h
        · cases h
      · cases h

theorem st_shape {wl t : Nat} {x y : PV} {S : Heap} {σ σ1 : St} (hS : storeS T wl t x y σ.stack = some S) (h2 : withStack σ S = some σ1) {J : Nat} : σ1.H.length = σ.H.length ∧ ∀ j, j ≠ J → σ.L[j]? = some .gone → σ1.L[j]? = some .gone := by
  have hst := (withStack_some h2).1
  obtain ⟨d, k, B0, B, hB, hne, rfl⟩ := storeS_shape hS
  have hl : σ1.H.length = σ.H.length := by
    have := setS_length σ.stack d k B
    rw [← hst] at this
    simp only [St.stack, List.length_cons] at this
    omega
  refine ⟨hl, fun j _ hg => ?_⟩
  have h1 : atS σ1.stack σ1.H.length j = σ1.L[j]? := atS_top _ _ _
  have h3 : atS σ.stack σ.H.length j = some .gone := by rw [← hg]; exact atS_top _ _ _
  rw [← h1, hst, hl, atS_setS hB]
  split
  · rename_i hh
    obtain ⟨rfl, rfl⟩ := hh
    rw [hB] at h3
    injection h3 with h3
    exact absurd h3 hne
  · exact h3


theorem effD_shape {wl i : Nat} {L0 : List Blk} {e : Eff} {σ σ1 : St} (h : effD T wl L0 i e σ = some σ1) (ha : ∀ k b, e = .app k b → σ.L[k]? ≠ some .gone) :
    σ1.H.length = σ.H.length ∧ ∀ j, j ≠ L0.length + i → σ.L[j]? = some .gone → σ1.L[j]? = some .gone := by
  cases e with
  | no => injection h with h; subst h; exact ⟨rfl, fun _ _ h => h⟩
  | blk b =>
    injection h with h
    subst h
    refine ⟨rfl, fun j hj hg => ?_⟩
    show (σ.L.set _ b)[j]? = _
    rw [List.getElem?_set, if_neg (fun e => hj e.symm)]
    exact hg
  | own t x y =>
    obtain ⟨d, k, off, S, rfl, rfl, _, hS, h2⟩ := ownStore_some h
    exact st_shape hS h2
  | app k b =>
    injection h with h
    subst h
    refine ⟨rfl, fun j hj hg => ?_⟩
    show (σ.L.set k b)[j]? = _
    rw [List.getElem?_set, if_neg (fun (e : k = j) => ha k b rfl (by rw [e]; exact hg))]
    exact hg
  | st t x y =>
    obtain ⟨S, hS, h2⟩ := Option.bind_eq_some_iff.1 h
    exact st_shape hS h2

/-! ### The order drawn -/
section draw
variable {ops : Array Oper} {wl : Nat} {W : Nat → Prop} {Fs : FM} {φs : PM} {ws : World} {L0 : List Blk} {H0 : Heap}

def rests (ops : Array Oper) (listed : Array Bool) : List Nat := (List.range ops.size).filter fun i => !listed.getD i true

theorem mem_rests {listed : Array Bool} {i : Nat} : i ∈ rests ops listed ↔ i < ops.size ∧ listed.getD i true = false := by
  simp [rests]

theorem rests_split {listed : Array Bool} {i : Nat} (hs : listed.size = ops.size) (hi : i ∈ rests ops listed) : ∃ A B, rests ops listed = A ++ i :: B ∧ rests ops (listed.setIfInBounds i true) = A ++ B ∧ (∀ a ∈ A, a < i) ∧ i ∉ A ++ B := by
  obtain ⟨h1, h2⟩ := mem_rests.1 hi
  have hr : List.range ops.size = List.range i ++ i :: List.range' (i + 1) (ops.size - i - 1) := by
    have e1 : List.range ops.size = List.range' 0 i ++ List.range' i (ops.size - i) := by
      rw [List.range_eq_range']
      have := List.range'_append (s := 0) (m := i) (n := ops.size - i) (step := 1)
      simp only [Nat.zero_add, Nat.one_mul] at this
      rw [this]
      congr 1
      omega
    rw [e1, List.range_eq_range']
    congr 1
    rw [show ops.size - i = (ops.size - i - 1) + 1 by omega, List.range'_succ]
    rfl
  have hset : ∀ j, j ≠ i → (listed.setIfInBounds i true).getD j true = listed.getD j true := fun j hj => getD_set_ne true (Ne.symm hj)
  have hself : (listed.setIfInBounds i true).getD i true = true := by
    have : i < listed.size := by omega
    simp [this]
  refine ⟨(List.range i).filter fun j => !listed.getD j true, (List.range' (i + 1) (ops.size - i - 1)).filter fun j => !listed.getD j true, ?_, ?_, ?_, ?_⟩
  · unfold rests
    rw [hr, List.filter_append, List.filter_cons_of_pos (by rw [h2]; rfl)]
  · unfold rests
    rw [hr, List.filter_append, List.filter_cons_of_neg (by rw [hself]; simp)]
    congr 1
    · apply List.filter_congr
      intro j hj
      rw [hset j (by have := List.mem_range.1 hj; omega)]
    · apply List.filter_congr
      intro j hj
      rw [hset j (by have := List.mem_range'_1.1 hj; omega)]
  · intro a ha
    exact List.mem_range.1 (List.mem_filter.1 ha).1
  · intro hm
    rcases List.mem_append.1 hm with hm | hm
    · exact Nat.lt_irrefl _ (List.mem_range.1 (List.mem_filter.1 hm).1)
    · have := List.mem_range'_1.1 (List.mem_filter.1 hm).1
      omega

def DInv (W : Nat → Prop) (n : Nat) (ds : List Deferred) (ops : Array Oper) (Fs : FM) (φs : PM) (ws : World) (L0 : List Blk) (H0 : Heap) (R : List Nat) (σ : St) (a : Act) (w : World) : Prop :=
  ∃ F φ, Adv W Fs φs (L0 :: H0) ws F φ σ.stack w ∧ Inv F φ σ.stack w ∧ EnvOk n ds F φ σ a ∧ σ.H.length = H0.length ∧ (∀ i ∈ R, σ.L[L0.length + i]? = some .gone) ∧
    ((∃ i ∈ R, ∃ o, ops[i]? = some o ∧ usesNow ops o = true ∧ isStore o.op = false) → Early φs L0 H0 F σ w)

theorem getD_tf {listed : Array Bool} {i : Nat} (hi : i < listed.size) (d e : Bool) : listed.getD i d = listed.getD i e := by
  simp [hi]

theorem any_ok (hT : TOk P T) (hO : CallOk P O) (hW : ∀ d, wl ≤ d ∨ d = H0.length → W d) (hd : drawOk ops = true) (hwf : wfOps n ops = true) :
    ∀ (fuel : Nat) (listed : Array Bool) (σ : St) (a : Act) (w : World) (ex : Ex) (s' : St), listed.size = ops.size →
      (∀ j o, listed.getD j false = true → ops[j]? = some o → ∀ e ∈ o.after, Region.binds .any e = true → listed.getD e.on false = true) →
      runIdx T O wl ops L0 (rests ops listed) σ = some (ex, s') → DInv W n ds ops Fs φs ws L0 H0 (rests ops listed) σ a w → (rests ops listed).length ≤ fuel →
      wpAny P .any ops (Outs W n ds Fs φs (L0 :: H0) ws ex s') fuel listed a w := by
  intro fuel
  have fin : ∀ (listed : Array Bool) (σ : St) (a : Act) (w : World) (ex : Ex) (s' : St), rests ops listed = [] → runIdx T O wl ops L0 (rests ops listed) σ = some (ex, s') → DInv W n ds ops Fs φs ws L0 H0 (rests ops listed) σ a w →
      Outs W n ds Fs φs (L0 :: H0) ws ex s' .normal a w := by
    intro listed σ a w ex s' hr hrun hD
    rw [hr] at hrun
    simp only [runIdx, Option.some.injEq, Prod.mk.injEq] at hrun
    obtain ⟨rfl, rfl⟩ := hrun
    obtain ⟨F, φ, h1, h2, h3, _⟩ := hD
    exact ⟨F, φ, h1, h2, h3⟩
  have hready : ∀ (listed : Array Bool), listed.size = ops.size → Region.ready .any ops listed = [] → rests ops listed = [] := by
    intro listed hs hr
    cases hR : rests ops listed with
    | nil => rfl
    | cons i B =>
      exfalso
      have hi : i ∈ rests ops listed := by rw [hR]; exact List.mem_cons_self
      obtain ⟨hlt, hl⟩ := mem_rests.1 hi
      have hmin : ∀ j, j < i → listed.getD j false = true := by
        intro j hj
        cases hv : listed.getD j false with
        | true => rfl
        | false =>
          have hm : j ∈ rests ops listed := mem_rests.2 ⟨by omega, by rw [getD_tf (by omega) true false]; exact hv⟩
          obtain ⟨A, B', h1, _, h3, _⟩ := rests_split hs hi
          rw [hR] at h1
          have hA : A = [] := by
            cases A with
            | nil => rfl
            | cons x A =>
              simp only [List.cons_append, List.cons.injEq] at h1
              have := h3 x (by simp)
              omega
          subst hA
          rw [hR] at hm
          simp only [List.nil_append, List.cons.injEq, true_and] at h1
          subst h1
          rcases List.mem_cons.1 hm with e | hm
          · omega
          · have hm' : j ∈ (List.range ops.size).filter fun i => !listed.getD i true := mem_rests.2 ⟨by omega, by rw [getD_tf (by omega) true false]; exact hv⟩
            have hsorted : (rests ops listed).Pairwise (· < ·) := List.Pairwise.filter _ List.pairwise_lt_range
            rw [hR] at hsorted
            have := (List.pairwise_cons.1 hsorted).1 j hm
            omega
      have hmem : i ∈ Region.ready .any ops listed := mem_ready.2 ⟨hl, ops[i], by simp [hlt], fun e he hb => hmin e.on (drawOk_edges hd (y := ops[i]) (by simp [hlt]) e he hb)⟩
      rw [hr] at hmem
      cases hmem
  induction fuel with
  | zero =>
    intro listed σ a w ex s' hs hcl hrun hD hlen
    have hr : rests ops listed = [] := List.eq_nil_of_length_eq_zero (by omega)
    refine ⟨?_, fin listed σ a w ex s' hr hrun hD⟩
    cases hre : Region.ready .any ops listed with
    | nil => rfl
    | cons i l =>
      have : i ∈ Region.ready .any ops listed := by rw [hre]; exact List.mem_cons_self
      obtain ⟨h0, o, ho, _⟩ := mem_ready.1 this
      have : i ∈ rests ops listed := mem_rests.2 ⟨(Array.getElem?_eq_some_iff.1 ho).1, h0⟩
      rw [hr] at this
      cases this
  | succ fuel ih =>
    intro listed σ a w ex s' hs hcl hrun hD hlen
    refine ⟨fun hre => fin listed σ a w ex s' (hready listed hs hre) hrun hD, fun i hi => ?_⟩
    obtain ⟨h0, o, ho, hall⟩ := mem_ready.1 hi
    have hlt := (Array.getElem?_eq_some_iff.1 ho).1
    have him : i ∈ rests ops listed := mem_rests.2 ⟨hlt, h0⟩
    obtain ⟨A, B, hR, hR', hA, hnot⟩ := rests_split hs him
    have hbef : ∀ j, j ∈ rests ops listed → ((Region.before ops).getD i 0).testBit j = false := by
      intro j hj
      cases hb : ((Region.before ops).getD i 0).testBit j with
      | false => rfl
      | true =>
        have := before_closed ops (fun j => listed.getD j false = true) hcl i (fun o' ho' => by rw [ho] at ho'; injection ho' with ho'; subst ho'; exact hall) j hb
        obtain ⟨h3, h4⟩ := mem_rests.1 hj
        rw [getD_tf (by omega) true false, this] at h4
        cases h4
    rw [hR] at hrun
    have hrun' := runIdx_first hd hlt A B σ (ex, s') (fun a ha => ⟨hA a ha, hbef a (by rw [hR]; simp [ha])⟩) hrun
    obtain ⟨F, φ, d1, d2, d3, d4, d5, d6⟩ := hD
    have hcl' : ∀ j o', (listed.setIfInBounds i true).getD j false = true → ops[j]? = some o' → ∀ e ∈ o'.after, Region.binds .any e = true → (listed.setIfInBounds i true).getD e.on false = true := by
      intro j o' hj ho' e he hb
      by_cases hji : j = i
      · subst hji
        rw [ho] at ho'
        injection ho' with ho'
        subst ho'
        exact getD_set_true (hall e he hb)
      · rw [getD_set_ne false (Ne.symm hji)] at hj
        exact getD_set_true (hcl j o' hj ho' e he hb)
    have hlen' : (rests ops (listed.setIfInBounds i true)).length ≤ fuel := by
      rw [hR'] 
      rw [hR] at hlen
      simp only [List.length_append, List.length_cons] at hlen ⊢
      omega
    have hs' : (listed.setIfInBounds i true).size = ops.size := by simpa using hs
    have hsub : ∀ j, j ∈ A ++ B → j ∈ rests ops listed ∧ j ≠ i := by
      intro j hj
      refine ⟨?_, fun e => hnot (e ▸ hj)⟩
      rw [hR]
      rcases List.mem_append.1 hj with hj | hj
      · exact List.mem_append_left _ hj
      · exact List.mem_append_right _ (List.mem_cons_of_mem _ hj)
    have hnost : (∃ j ∈ A ++ B, ∃ y, ops[j]? = some y ∧ usesNow ops y = true ∧ isStore y.op = false) → hard ops o = false := by
      rintro ⟨j, hj, y, hy, hu, hst⟩
      obtain ⟨hjr, hji⟩ := hsub j hj
      cases hso : hard ops o with
      | false => rfl
      | true =>
        exfalso
        rcases Nat.lt_or_gt_of_ne hji with hlt' | hgt
        · obtain ⟨q1, _⟩ := drawOk_spec hd hlt' hy ho
          rcases q1 with q1 | q1
          · rw [hbef j hjr] at q1; cases q1
          · unfold freeOf at q1
            rw [hso, hu] at q1
            simp at q1
        · have := (drawOk_spec hd hgt ho hy).2 hso hu
          rw [hst] at this
          cases this
    simp only [runIdx, ho] at hrun'
    cases hstep : stepDraw T O wl ops L0 i o σ with
    | none => rw [hstep] at hrun'; cases hrun'
    | some q =>
    rw [hstep] at hrun'
    obtain ⟨r, σ1⟩ := q
    obtain ⟨e, hwhat, heff⟩ := step_some hstep
    obtain ⟨sh1, sh2⟩ := effD_shape heff (fun k b hb => ((whatD_kind hwhat).app k b hb).2.2.2)
    have hdst := wf_dst hwf ho
    -- what is left, after a value
    have go : ∀ (v : PV) (F' : FM) (φ' : PM) (w' : World) (u : Value), r = .val v → Adv W F φ σ.stack w F' φ' σ1.stack w' → Inv F' φ' σ1.stack w' → Rep F' φ' v u →
        ((∃ j ∈ A ++ B, ∃ y, ops[j]? = some y ∧ usesNow ops y = true ∧ isStore y.op = false) → Early φs L0 H0 F' σ1 w') →
        wpAny P .any ops (Outs W n ds Fs φs (L0 :: H0) ws ex s') fuel (listed.setIfInBounds i true) (a.put o.dst u) w' := by
      intro v F' φ' w' u hr ha hI hrep hear
      subst hr
      have p3 := σ1.put_stack o.dst v
      refine ih _ (σ1.put o.dst v) _ w' ex s' hs' hcl' (by rw [hR']; exact hrun') ⟨F', φ', ?_, ?_, ?_, ?_, ?_, ?_⟩ hlen'
      · rw [p3.1]; exact d1.trans ha
      · rw [p3.1]; exact hI
      · exact (d3.mono ha.fm ha.pm (effD_env heff)).put hdst hrep
      · rw [p3.2.2, sh1]; exact d4
      · intro j hj
        rw [hR'] at hj
        obtain ⟨hjr, hji⟩ := hsub j hj
        rw [p3.2.1]
        exact sh2 _ (by omega) (d5 j hjr)
      · intro hex
        rw [hR'] at hex
        obtain ⟨e1, e2, e3⟩ := hear hex
        exact ⟨by rw [p3.2.2]; exact e1, by rw [p3.2.1]; exact e2, e3⟩
    have hearly : (∃ j ∈ A ++ B, ∃ y, ops[j]? = some y ∧ usesNow ops y = true ∧ isStore y.op = false) → Early φs L0 H0 F σ w := by
      rintro ⟨j, hj, y, hy⟩
      exact d6 ⟨j, (hsub j hj).1, y, hy⟩
    unfold whatD at hwhat
    cases hwant : wantedP ops o σ with
    | none => rw [hwant] at hwhat; cases hwhat
    | some b =>
      rw [hwant] at hwhat
      have hw := wantedP_ok d3 hwf hwant
      unfold wpOp
      rw [ho]
      simp only [hw]
      cases b with
      | false =>
        simp only [Bool.false_eq_true, if_false] at hwhat ⊢
        injection hwhat with hwhat
        simp only [Prod.mk.injEq] at hwhat
        obtain ⟨rfl, rfl⟩ := hwhat
        injection heff with heff
        subst heff
        exact go _ F φ w undef rfl (Adv.refl _ _ _ _ _) d2 (rep_undef _ _) hearly
      | true =>
        simp only [if_true] at hwhat ⊢
        refine .inl (dstep_ok (a := a) hT hO hW d4 d2 d3 d1.pm (fun hu hst => d6 ⟨i, him, o, ho, hu, hst⟩) (d5 i him) hwhat heff _ _ (fun p hp F' φ' w' u q1 q2 q3 q4 => ?_) (fun p hp F' φ' w' u q1 q2 q3 => ?_))
        · exact go p F' φ' w' u hp q1 q2 q3 (fun hex => q4 (hnost hex) (hearly hex))
        · subst hp
          simp only [] at hrun'
          split at hrun'
          · injection hrun' with hrun'
            simp only [Prod.mk.injEq] at hrun'
            obtain ⟨rfl, rfl⟩ := hrun'
            exact ⟨F', φ', d1.trans q1, q2, d3.mono q1.fm q1.pm (effD_env heff), u, rfl, q3⟩
          · cases hrun'

end draw
end
end Go.GL
