/-
  GL, part J: one operation of a region that draws its order.
-/
import Derived.Test.YtafgloejojikoaaMGlH
set_option linter.unusedSimpArgs false
set_option linter.unusedVariables false
/-! GL, part J: one operation of a region that draws its order. -/
namespace Go.GL

section
variable {P : Program} {T : Tab} {O : Orc} {n : Nat} {ds : List Deferred} {F : FM} {φ : PM} {w : World}

/-- What was there is as it was. -/
theorem Inv.frame {S : Heap} {F' : FM} {w' : World} (h : Inv F φ S w) (hF : FM.le F F') (hold : ∀ i, i < w.heap.size → w'.heap[i]? = w.heap[i]? ∧ ∀ o, F' i o = F i o)
    (hcell : ∀ b o v, F' b o = some v → w'.cell? ⟨b, o, none⟩ = some v) : Inv F' φ S w' :=
  ⟨hcell, h.new, fun d k B hB => (h.blk d k B hB).keep hF (PM.le.refl _) (fun b hb => ⟨(hold b (h.lt hB hb)).1, fun o => by rw [(hold b (h.lt hB hb)).2]; exact h.free hB hb o⟩), h.sep, h.top⟩

theorem loadP_mono {t : Nat} {p : PV} {S S' : Heap} (hS : ∀ d k B, atS S d k = some B → atS S' d k = some B) {r : PV} (h : loadP T t p S = some r) : loadP T t p S' = some r := by
  unfold loadP at *
  cases ht : T t with
  | none => rw [ht] at h; cases h
  | some ti =>
    rw [ht] at h
    cases p with
    | ptr d k off =>
      simp only [] at h ⊢
      cases hB : atS S d k with
      | none => rw [hB] at h; cases h
      | some B => rw [hB] at h; rw [hS _ _ _ hB]; exact h
    | eptr d k n i off =>
      simp only [] at h ⊢
      cases hB : atS S d k with
      | none => rw [hB] at h; cases h
      | some B => rw [hB] at h; rw [hS _ _ _ hB]; exact h
    | _ => exact h

theorem indexP_mono {t : Nat} {x i : PV} {S S' : Heap} (hS : ∀ d k B, atS S d k = some B → atS S' d k = some B) {r : OpR} (h : indexP T t x i S = some r) : indexP T t x i S' = some r := by
  unfold indexP at *
  split at h
  · rename_i ti k i' ht
    cases htd : ti.td with
    | slice e =>
      rw [htd] at h
      simp only [] at h ⊢
      cases he : T e with
      | none => rw [he] at h; cases h
      | some ei =>
        rw [he] at h
        simp only [] at h ⊢
        cases x with
        | own d k n sz =>
          simp only [] at h ⊢
          cases hB : atS S d k with
          | none => rw [hB] at h; cases h
          | some B => rw [hB] at h; rw [hS _ _ _ hB]; exact h
        | _ => exact h
    | _ => rw [htd] at h; cases h
  · cases h

theorem lookM_mono {S S' : Heap} (hS : ∀ d k B, atS S d k = some B → atS S' d k = some B) {kd : TD} {z k : PV} {ok : Bool} {d j : Nat} {r : OpR} (h : lookM kd z ok k (atS S d j) = some r) : lookM kd z ok k (atS S' d j) = some r := by
  cases hB : atS S d j with
  | none => rw [hB] at h; cases h
  | some B => rw [hS _ _ _ hB]; rw [hB] at h; exact h
theorem lookupP_mono {S S' : Heap} (hS : ∀ d k B, atS S d k = some B → atS S' d k = some B) {t : Nat} {m k : PV} {ok : Bool} {r : OpR} (h : lookupP T t m k ok S = some r) : lookupP T t m k ok S' = some r := by
  unfold lookupP at *
  split <;> simp_all only []
  split <;> simp_all only []
  split <;> simp_all only []
  split <;> simp_all only []
  exact lookM_mono hS h
theorem pureOp_mono {s : St} {o : Oper} {S S' : Heap} (hS : ∀ d k B, atS S d k = some B → atS S' d k = some B) {r : OpR} (h : pureOp T o s S = some r) : pureOp T o s S' = some r := by
  obtain ⟨dst, op, ty, pos, after, gd⟩ := o
  cases op with
  | load t a =>
    simp only [pureOp] at h ⊢
    obtain ⟨p, hp, rfl⟩ := Option.map_eq_some_iff.1 h
    rw [loadP_mono hS hp]
    rfl
  | indexAddr t x i =>
    simp only [pureOp] at h ⊢
    exact indexP_mono hS h
  | slice t x lo hi m => cases m <;> exact h
  | lookup t x y ok =>
    simp only [pureOp] at h ⊢
    exact lookupP_mono hS h
  | _ => exact h

/-- What is known of places that were there at first. -/
theorem there_rep {S : Heap} {φs : PM} (hI : Inv F φs S w) (hle : PM.le φs φ) {p : PV} {v : Value} (h : Rep F φ p v) : there S p = true → Rep F φs p v := by
  have same : ∀ {d k n : Nat} {x y : Nat × Nat × Nat}, φs d k n = some x → φ d k n = some y → x = y := fun h1 h2 => by
    rw [hle _ _ _ _ h1] at h2
    injection h2
  have ls : ∀ l : List PV, thereL S l = true → ∀ c ∈ l, there S c = true := by
    intro l
    induction l with
    | nil => simp
    | cons p ps ih =>
      intro h c hc
      simp only [thereL, Bool.and_eq_true] at h
      rcases List.mem_cons.1 hc with rfl | hc
      · exact h.1
      · exact ih h.2 c hc
  induction h with
  | data p v hl h => exact fun _ => .data p v hl h
  | agg cs vs hl h1 _ ih =>
    intro ht
    simp only [there] at ht
    exact .agg cs vs hl h1 fun j c v hc hv => ih j c v hc hv (ls _ ht c (List.mem_of_getElem? hc))
  | tup cs vs hl _ ih =>
    intro ht
    simp only [there] at ht
    exact .tup cs vs hl fun j c v hc hv => ih j c v hc hv (ls _ ht c (List.mem_of_getElem? hc))
  | own d k n sz b S0 cap hp hn hS =>
    intro ht
    simp only [there] at ht
    split at ht
    · rename_i live sz' xs hB
      simp only [beq_iff_eq] at ht
      subst ht
      have hb := hI.blk d k _ hB
      cases live with
      | true =>
        obtain ⟨b', C, t, g1, _⟩ := hb
        have := same g1 hp
        rw [this] at g1
        exact .own d k _ sz b S0 cap g1 hn hS
      | false =>
        obtain ⟨b', C, t, g1, _⟩ := hb
        have := same g1 hp
        rw [this] at g1
        exact .own d k _ sz b S0 cap g1 hn hS
    · cases ht
  | ptr d k off b S0 hp =>
    intro ht
    simp only [there] at ht
    split at ht
    · rename_i cs hB
      obtain ⟨b', C, t, g1, _⟩ := hI.blk d k _ hB
      have := same g1 hp
      rw [this] at g1
      exact .ptr d k off b S0 g1
    · cases ht
  | eptr d k n i off b S0 sz hp hz =>
    intro ht
    simp only [there] at ht
    split at ht
    · rename_i live sz' xs hB
      simp only [beq_iff_eq] at ht
      subst ht
      have hb := hI.blk d k _ hB
      cases live with
      | true =>
        obtain ⟨b', C, t, g1, _⟩ := hb
        have := same g1 hp
        rw [this] at g1
        exact .eptr d k _ i off b S0 sz g1 hz
      | false =>
        obtain ⟨b', C, t, g1, _⟩ := hb
        have := same g1 hp
        rw [this] at g1
        exact .eptr d k _ i off b S0 sz g1 hz
    · cases ht
  | rptr cs off b o cv h1 hF' hR => exact fun _ => .rptr cs off b o cv h1 hF' hR
  | nilp => exact fun _ => .nilp
  | func f fs cs vs us hl hm _ _ ih ig =>
    intro ht
    simp only [there, Bool.and_eq_true] at ht
    exact .func f fs cs vs us hl hm (fun j c v hc hv => ih j c v hc hv (ls _ ht.1 c (List.mem_of_getElem? hc))) (fun j c v hc hv => ig j c v hc hv (ls _ ht.2 c (List.mem_of_getElem? hc)))
  | nilFunc => exact fun _ => .nilFunc
  | map d k b S0 hp =>
    intro ht
    simp only [there] at ht
    split at ht
    · rename_i kd es hB
      obtain ⟨b', C, t, g1, _⟩ := hI.blk d k _ hB
      have := same g1 hp
      rw [this] at g1
      exact .map d k b S0 g1
    · cases ht
  | nilm => exact fun _ => .nilm
  | junk v => exact fun _ => .junk v

theorem thereL_mem {S : Heap} : ∀ {l : List PV}, thereL S l = true → ∀ c ∈ l, there S c = true
  | [], _, c, hc => by cases hc
  | p :: ps, h, c, hc => by
    simp only [thereL, Bool.and_eq_true] at h
    rcases List.mem_cons.1 hc with rfl | hc
    · exact h.1
    · exact thereL_mem h.2 c hc

/-- Data known under one φ is known under another. -/
theorem rep_dataT {φ' : PM} {p : PV} {v : Value} (h : Rep F φ' p v) (hd : isDataT p = true) : Rep F φ p v := by
  cases p with
  | tup vs =>
    simp only [isDataT, isDataL_iff] at hd
    obtain ⟨us, rfl, hl, hr⟩ := rep_tup h
    exact .tup vs us hl fun j c v hc hv => .of_data ((hr j c v hc hv).data_of (hd c (List.mem_of_getElem? hc)))
  | _ => exact .of_data (h.data_of hd)

variable {L0 : List Blk} {H0 : Heap} {φs : PM} {σ σ1 : St} {a : Act}

/-- No store has been yet. -/
def Early (φs : PM) (L0 : List Blk) (H0 : Heap) (F : FM) (σ : St) (w : World) : Prop :=
  σ.H = H0 ∧ (∀ k, k < L0.length → σ.L[k]? = L0[k]?) ∧ Inv F φs (L0 :: H0) w

theorem Early.at (h : Early φs L0 H0 F σ w) (d k : Nat) (B : Blk) (hB : atS (L0 :: H0) d k = some B) : atS σ.stack d k = some B := by
  obtain ⟨h1, h2, _⟩ := h
  unfold St.stack
  rw [h1]
  by_cases hd : d = H0.length
  · subst hd
    rw [atS_top] at hB ⊢
    rw [h2 k (List.getElem?_eq_some_iff.1 hB).1]
    exact hB
  · rw [atS_cons hd] at hB ⊢
    exact hB

def DStepTo (P : Program) (W : Nat → Prop) (φs : PM) (L0 : List Blk) (H0 : Heap) (F : FM) (φ : PM) (σ : St) (a : Act) (w : World) (o : Oper) (hd : Bool) (r : OpR) (σ1 : St) : Prop :=
  ∀ (K : Act → World → Prop) (Q : Exit → Act → World → Prop),
    (∀ p, r = .val p → ∀ F' φ' w' u, Adv W F φ σ.stack w F' φ' σ1.stack w' → Inv F' φ' σ1.stack w' → Rep F' φ' p u → (hd = false → Early φs L0 H0 F σ w → Early φs L0 H0 F' σ1 w') → K (a.put o.dst u) w') →
    (∀ p, r = .panic p → ∀ F' φ' w' u, Adv W F φ σ.stack w F' φ' σ1.stack w' → Inv F' φ' σ1.stack w' → Rep F' φ' p u → Q (.panic [{ v := u, recovered := false }]) a w') →
    o.wp P a w K Q

theorem call_draw (hO : CallOk P O) {sl : Bool} {W : Nat → Prop} (hWd : W H0.length) (hI : Inv F φ σ.stack w) (hE : EnvOk n ds F φ σ a) (hle : PM.le φs φ) (hear : Early φs L0 H0 F σ w) {wl i : Nat} (hgone : σ.L[L0.length + i]? = some .gone)
    {dst ty pos after gd} {f : Operand} {args : Array Operand} {tys : Array TypeId} {r : OpR} {e : Eff} (h : callRead O L0 sl i f args σ = some (r, e)) (he : effD T wl L0 i e σ = some σ1) :
    DStepTo P W φs L0 H0 F φ σ a w ⟨dst, .call ⟨.value f, args, tys⟩, ty, pos, after, gd⟩ false r σ1 := by
  obtain ⟨e1, e2, i0⟩ := hear
  have hat := Early.at ⟨e1, e2, i0⟩
  unfold callRead at h
  split at h
  · rename_i g ps htg
    obtain ⟨fs, us, hf, hreps⟩ := target_ok hE htg
    split at h
    · rename_i ps' hfz
      split at h
      · rename_i hth
        rw [e1] at hfz hth h
        have hdep : σ.depth = H0.length := by unfold St.depth; rw [e1]
        obtain ⟨l1, l2, _⟩ := frzL_rep (φ := φ) hI ps (S := L0 :: H0) (d := σ.depth) (ro := true) (fun k live sz xs hk hB hl => by
          have : live = false := by simpa using hl
          subst this
          exact hat _ _ _ hB) hfz hreps.1 hreps.2
        have hr0 : Reps F φs ps' (fs ++ args.map a.eval ++ us).toList := ⟨by rw [l1]; exact hreps.1, fun j c v hc hv => there_rep i0 hle (l2 j c v hc hv) (thereL_mem hth c (List.mem_of_getElem? hc))⟩
        cases hc : O.call g (σ.depth + 1) ps' (L0 :: H0) with
        | none => rw [hc] at h; cases h
        | some q0 =>
          obtain ⟨out, S'⟩ := q0
          rw [hc] at h
          have hgo := hO g _ ps' _ out S' hc F φs w _ i0 hr0
          have hold0 : ∀ {F' φ' w'}, Adv (fun d => σ.depth + 1 ≤ d) F φs (L0 :: H0) w F' φ' S' w' → ∀ i, i < w.heap.size → w'.heap[i]? = w.heap[i]? ∧ ∀ o, F' i o = F i o := fun ha i hi => ha.block i hi fun d k B hB _ hw => by
              have := atS_lt hB
              simp only [List.length_cons] at this
              omega
          have fin : ∀ {F' φ' w'}, Adv (fun d => σ.depth + 1 ≤ d) F φs (L0 :: H0) w F' φ' S' w' → Inv F' φ' S' w' →
              Adv W F φ σ.stack w F' φ σ.stack w' ∧ Inv F' φ σ.stack w' ∧ Early φs L0 H0 F' σ w' := by
            intro F' φ' w' ha hi
            have hold := hold0 ha
            refine ⟨⟨ha.fm, PM.le.refl _, rfl, ha.os, ha.tape, ha.output, ha.size, fun i hi _ => hold i hi, fun d k B i h1 h2 _ => ⟨B, h1, h2⟩⟩, hI.frame ha.fm hold hi.cell, e1, e2, i0.frame ha.fm hold hi.cell⟩
          intro K Q hK hQ
          have fin2 : ∀ e w', (∃ F' φ', Adv (fun d => σ.depth + 1 ≤ d) F φs (L0 :: H0) w F' φ' S' w' ∧ Inv F' φ' S' w' ∧ RelOut F' φ' out e) → match e, w' with
              | .returned v, w'' => K (a.put dst v) w''
              | .panicked chain, w'' => Q (.panic chain) a w''
              | .outgrown, _ => LetsOut Q := by
            rintro ed w' ⟨F', φ', h1, h2, h3⟩
            obtain ⟨f1, f2, f3⟩ := fin h1 h2
            cases out with
            | ret v =>
              simp only [retRead] at h
              split at h
              · rename_i hdat
                injection h with h
                simp only [Prod.mk.injEq] at h
                obtain ⟨rfl, rfl⟩ := h
                injection he with he
                subst he
                cases ed with
                | returned x => exact hK v rfl F' φ w' x f1 f2 (rep_dataT h3 hdat) (fun _ _ => f3)
                | panicked c => exact h3.elim
                | outgrown => exact h3.elim
              · obtain ⟨q, hq, h⟩ := Option.map_eq_some_iff.1 h
                simp only [Prod.mk.injEq] at h
                obtain ⟨rfl, rfl⟩ := h
                injection he with he
                subst he
                cases ed with
                | panicked c => exact h3.elim
                | outgrown => exact h3.elim
                | returned x =>
                unfold keptR at hq
                split at hq
                case h_2 => cases hq
                rename_i d' k' n sz L1 H1 _
                split at hq
                case isFalse => cases hq
                rename_i hdk
                obtain ⟨rfl, rfl⟩ := hdk
                split at hq
                case h_2 => cases hq
                rename_i sz' xs hB1
                split at hq
                case isFalse => cases hq
                rename_i hns
                obtain ⟨rfl, rfl⟩ := hns
                injection hq with hq
                subst hq
                have hlen1 : H1.length = H0.length := by have := h1.len; simpa using this
                have hB : atS (L1 :: H1) σ.depth L0.length = some (.arr true sz' xs) := by rw [hdep, ← hlen1, atS_top]; exact hB1
                obtain ⟨b, C, t, g1, g2, g3, g4, g5, g6⟩ := h2.blk _ _ _ hB
                have hfresh : w.heap.size ≤ b := by
                  rcases Nat.lt_or_ge b w.heap.size with hlt | hge
                  · obtain ⟨B, hB0, _⟩ := h1.old _ _ _ b hB (by simp [blkAt, g1]) hlt
                    rw [hdep, atS_top, List.getElem?_eq_none (Nat.le_refl _)] at hB0
                    cases hB0
                  · exact hge
                have hx : ∃ cap, x = .slice (some ⟨b, 0, none⟩) xs.length cap ∧ xs.length ≤ cap ∧ cap * sz' ≤ C.size := by
                  have h3' : Rep F' φ' (.own σ.depth L0.length xs.length sz') x := h3
                  cases h3' with
                  | data p v hl h => simp [isLeaf] at hl
                  | own d k n sz b' S0 cap hp hn hS =>
                    rw [g1] at hp
                    injection hp with hp
                    simp only [Prod.mk.injEq] at hp
                    obtain ⟨rfl, rfl, _⟩ := hp
                    exact ⟨cap, rfl, hn, hS⟩
                obtain ⟨cap, rfl, hn, hS⟩ := hx
                have hlt : L0.length + i < σ.L.length := (List.getElem?_eq_some_iff.1 hgone).1
                have hslot : atS σ.stack σ.depth (L0.length + i) = some .gone := (atS_top σ.L σ.H _).trans hgone
                have hnone := f2.free_id (.inr hslot)
                have hle2 := PM.le_put (φ := φ) (x := (b, C.size, sz')) (hnone xs.length)
                have hself := PM.put_self φ σ.depth (L0.length + i) xs.length (b, C.size, sz')
                have hats := at_set (H := σ.H) hlt (.arr true sz' xs)
                have hinv : Inv F' (φ.put σ.depth (L0.length + i) xs.length (b, C.size, sz')) (σ.L.set (L0.length + i) (.arr true sz' xs) :: σ.H) w' := by
                  refine f2.upd (FM.le.refl _) hle2 hats (fun d' k' n' x hx => PM.put_inv hx) (fun e => by cases e) f2.cell (fun d' k' B' b' _ q1 q2 => ⟨rfl, f2.free q1 q2⟩) ⟨b, C, t, hself, g2, g3, g4, g5, g6⟩ (fun b' hb' d' k' B' _ q1 q2 => ?_) (fun live sz0 xs0 e0 n' x hx => ?_)
                  · have : blkAt (φ.put σ.depth (L0.length + i) xs.length (b, C.size, sz')) σ.depth (L0.length + i) (.arr true sz' xs) = some b := by simp [blkAt, hself]
                    have hb'' := this.symm.trans hb'
                    injection hb'' with hb''
                    subst hb''
                    have := hI.lt q1 q2
                    omega
                  · injection e0 with _ _ e0
                    subst e0
                    unfold PM.put at hx
                    split at hx
                    · rename_i hh; rw [hh.2.2]; exact Nat.le_refl _
                    · exact absurd ((hnone n').symm.trans hx) (by simp)
                have hA : Adv W F φ σ.stack w F' (φ.put σ.depth (L0.length + i) xs.length (b, C.size, sz')) (σ.L.set (L0.length + i) (.arr true sz' xs) :: σ.H) w' := by
                  refine ⟨h1.fm, hle2, rfl, h1.os, h1.tape, h1.output, h1.size, fun i hi _ => hold0 h1 i hi, fun d' k' B' i' q1 q2 q3 => ?_⟩
                  have q1' : atS (σ.L.set (L0.length + i) (.arr true sz' xs) :: σ.H) d' k' = some B' := q1
                  rw [hats] at q1'
                  split at q1'
                  · rename_i hd
                    obtain ⟨rfl, rfl⟩ := hd
                    injection q1' with q1'
                    subst q1'
                    have : blkAt (φ.put σ.depth (L0.length + i) xs.length (b, C.size, sz')) σ.depth (L0.length + i) (.arr true sz' xs) = some b := by simp [blkAt, hself]
                    have hb'' := this.symm.trans q2
                    injection hb'' with hb''
                    omega
                  · rename_i hd
                    refine ⟨B', q1', ?_⟩
                    unfold blkAt at *
                    split at q2
                    · obtain ⟨x, hx, rfl⟩ := Option.map_eq_some_iff.1 q2
                      exact Option.map_eq_some_iff.2 ⟨x, (PM.put_inv hx).resolve_right hd, rfl⟩
                    · obtain ⟨x, hx, rfl⟩ := Option.map_eq_some_iff.1 q2
                      exact Option.map_eq_some_iff.2 ⟨x, (PM.put_inv hx).resolve_right hd, rfl⟩
                    · obtain ⟨x, hx, rfl⟩ := Option.map_eq_some_iff.1 q2
                      exact Option.map_eq_some_iff.2 ⟨x, (PM.put_inv hx).resolve_right hd, rfl⟩
                    · cases q2
                have hrow : ∀ B k, k < L0.length → (σ.L.set (L0.length + i) B)[k]? = L0[k]? := fun B k hk => by
                  rw [List.getElem?_set, if_neg (by omega)]
                  exact e2 k hk
                cases sl with
                | false => exact hK _ rfl F' _ w' _ hA hinv (.own _ _ _ _ b C.size cap hself hn hS) (fun _ _ => ⟨e1, hrow _, f3.2.2⟩)
                | true =>
                  have hB1' : atS (σ.L.set (L0.length + i) (.arr true sz' xs) :: σ.H) σ.depth (L0.length + i) = some (.arr true sz' xs) := by rw [hats]; simp [St.depth]
                  obtain ⟨F2, s1, s2⟩ := hinv.shut1 (S' := σ.L.set (L0.length + i) (.arr false sz' xs) :: σ.H) W hB1' (by rw [hdep]; exact hWd) (by simp) (fun d' k' => by
                    rw [at_set hlt, at_set hlt]
                    have : σ.depth = σ.H.length := rfl
                    rw [this]
                    split <;> rfl)
                  have hB2 : atS (σ.L.set (L0.length + i) (.arr false sz' xs) :: σ.H) σ.depth (L0.length + i) = some (.arr false sz' xs) := by
                    rw [at_set hlt]; simp [St.depth]
                  have hrep := frz_rep s2 (S := σ.L.set (L0.length + i) (.arr true sz' xs) :: σ.H) (d := σ.depth) (ro := false) (.own σ.depth (L0.length + i) xs.length sz') (q := .lst false xs) (v := .slice (some ⟨b, 0, none⟩) xs.length cap)
                    (fun k' live sz1 xs1 hk' hB' _ => by
                      have : k' = L0.length + i := by simpa [owns] using hk'
                      subst this
                      rw [hB1'] at hB'
                      injection hB' with hB'
                      injection hB' with q1 q2 q3
                      subst q2 q3
                      exact hB2)
                    (by simp only [frz, if_true, hB1']; simp) (.own _ _ _ _ b C.size cap (s1.pm _ _ _ _ hself) hn hS)
                  refine hK _ rfl F2 _ w' _ (hA.trans s1) s2 hrep (fun _ _ => ⟨e1, hrow _, ?_⟩)
                  have i1 := f3.2.2
                  refine ⟨s2.cell, i1.new, fun d' k' B' hB' => (i1.blk d' k' B' hB').keep s1.fm (PM.le.refl _) (fun b' hb' => ⟨rfl, fun o => ?_⟩), i1.sep, i1.top⟩
                  have hst : atS (σ.L.set (L0.length + i) (.arr false sz' xs) :: σ.H) d' k' = some B' := by
                    rw [at_set hlt, if_neg (by
                      rintro ⟨rfl, rfl⟩
                      have hB'' := hB'
                      rw [show σ.H.length = H0.length by rw [e1], atS_top] at hB''
                      have := (List.getElem?_eq_some_iff.1 hB'').1
                      omega)]
                    exact hat _ _ _ hB'
                  exact s2.free hst (blkAt_mono (hle.trans (hle2.trans s1.pm)) hb') o
            | panic v =>
              simp only [retRead] at h
              split at h
              · rename_i hdat
                injection h with h
                simp only [Prod.mk.injEq] at h
                obtain ⟨rfl, rfl⟩ := h
                injection he with he
                subst he
                cases ed with
                | returned x => exact h3.elim
                | panicked c =>
                  obtain ⟨x, rfl, h4⟩ := h3
                  exact hQ v rfl F' φ w' x f1 f2 (.of_data (h4.data_of hdat))
                | outgrown => exact h3.elim
              · cases h
          unfold Oper.wp
          rw [exec_call hf]
          unfold Goes at hgo
          split at hgo
          · rename_i hh
            rw [hh]
            exact Calls.mono hgo fin2
          · rename_i hh
            rw [hh]
            exact fin2 _ _ hgo
          · rename_i hh
            rw [hh]
            exact fin2 _ _ hgo
          · exact hgo.elim
      · cases h
    · cases h
  · cases h

/-- append to a row of the region's own. -/
theorem app_draw (hT : TOk P T) {W : Nat → Prop} {wl : Nat} (hW : ∀ d, wl ≤ d ∨ d = H0.length → W d) (hlen : σ.H.length = H0.length) (hI : Inv F φ σ.stack w) (hE : EnvOk n ds F φ σ a) (hle : PM.le φs φ)
    {dst ty pos after gd} {args : Array Operand} {tys : Array TypeId} {v : PV} {k : Nat} {B : Blk} (h : appRead T wl L0 args tys σ = some (v, k, B)) :
    DStepTo P W φs L0 H0 F φ σ a w ⟨dst, .call ⟨.builtin .append, args, tys⟩, ty, pos, after, gd⟩ false (.val v) { σ with L := σ.L.set k B } := by
  obtain ⟨hk, p, q, t, t', ti, tj, e, e', n0, sz, xs, ys, rfl, g0, ht, htd, g1, ht', htd', hp, hB, hap, rfl, rfl⟩ := appRead_at h
  have hdep : σ.depth = σ.H.length := rfl
  have hlt := (List.getElem?_eq_some_iff.1 hB).1
  obtain ⟨u, w', F', φ', r1, r2, r3, r4, r5⟩ := append_ok (W := W) (wl := wl) hT hI (fun d hd => hW d (hd.imp id fun e => e.trans hlen)) ht htd ht' htd' (hE.eval p) (hE.eval q) hap ty
  have hset : ∀ b, setS (σ.L :: σ.H) σ.depth k b = σ.L.set k b :: σ.H := fun b => by simp [St.depth, setS]
  have hS1 : setS (σ.L :: σ.H) σ.depth k (.arr true sz (xs ++ ys)) = σ.L.set k (.arr true sz (xs ++ ys)) :: σ.H := hset _
  rw [hS1] at r2 r3
  have hB1 : atS (σ.L.set k (.arr true sz (xs ++ ys)) :: σ.H) σ.depth k = some (.arr true sz (xs ++ ys)) := by
    rw [at_set hlt]; simp [St.depth]
  obtain ⟨F2, s1, s2⟩ := r3.shut1 (S' := σ.L.set k (.arr false sz (xs ++ ys)) :: σ.H) W hB1 (hW _ (.inr hlen)) (by simp) (fun d' k' => by
    rw [at_set hlt, at_set hlt]
    have : σ.depth = σ.H.length := rfl
    rw [this]
    split <;> rfl)
  have hB2 : atS (σ.L.set k (.arr false sz (xs ++ ys)) :: σ.H) σ.depth k = some (.arr false sz (xs ++ ys)) := by
    rw [at_set hlt]; simp [St.depth]
  have hrep : Rep F2 φ' (.lst false (xs ++ ys)) u := frz_rep s2 (S := σ.L.set k (.arr true sz (xs ++ ys)) :: σ.H) (d := σ.depth) (ro := false) (.own σ.depth k (xs ++ ys).length sz)
    (fun k' live sz' xs' hk' hB' _ => by
      have : k' = k := by simpa [owns] using hk'
      subst this
      rw [hB1] at hB'
      injection hB' with hB'
      injection hB' with q1 q2 q3
      subst q2 q3
      exact hB2)
    (by simp only [frz, if_true, hB1]; simp) (r4.mono s1.fm s1.pm)
  intro K Q hK hQ
  have e0 : Builtin.append_ tys ty #[a.eval p, a.eval q] = Builtin.append_ #[t, t'] ty #[a.eval p, a.eval q] := by
    simp [Builtin.append_, g0, g1]
  unfold Oper.wp
  simp only [execOp, resolve, invoke, builtin, Sem.run_bind, Sem.run_pure, Result.andThen_ok]
  have e2' : (#[p, q].map a.eval) = #[a.eval p, a.eval q] := by simp
  rw [e2', e0]
  simp only [r1, Result.andThen_ok, Oper.upon_value]
  refine hK _ rfl F2 φ' w' u (r2.trans s1) s2 hrep fun _ hear => ?_
  have hat := hear.at
  obtain ⟨e1, e2, i0⟩ := hear
  refine ⟨e1, fun j hj => ?_, ?_⟩
  · show (σ.L.set k _)[j]? = _
    rw [List.getElem?_set, if_neg (by omega)]
    exact e2 j hj
  · have hno : ∀ d' k' B', atS (L0 :: H0) d' k' = some B' → ¬ (d' = σ.H.length ∧ k' = k) := by
      rintro d' k' B' h1 ⟨rfl, rfl⟩
      rw [hlen, atS_top] at h1
      have := (List.getElem?_eq_some_iff.1 h1).1
      omega
    refine ⟨s2.cell, i0.new, fun d' k' B' hB' => (i0.blk d' k' B' hB').keep (r2.fm.trans s1.fm) (PM.le.refl _) (fun b' hb' => ⟨r5 b' (i0.lt hB' hb') ?_, fun o => ?_⟩), i0.sep, i0.top⟩
    · rintro d1 k1 n1 sz1 b1 S1 hown hp1 rfl
      rw [hp] at hown
      injection hown with q1 q2 q3 q4
      subst q1 q2 q3 q4
      obtain ⟨b2, C, tt, m1, m2, _⟩ := hI.blk σ.depth k _ ((atS_top σ.L σ.H k).trans hB)
      have hra := hE.eval p
      rw [hp] at hra
      have hbk : blkAt φ σ.depth k (.arr true sz xs) = some b2 := by simp [blkAt, m1]
      have hn0 : n0 = xs.length := by
        have hap' := hap
        unfold appendP at hap'
        cases he : T e with
        | none => rw [he] at hap'; cases hap'
        | some ei =>
          rw [he, hp] at hap'
          simp only [] at hap'
          split at hap'
          · cases hap'
          · rw [show atS σ.stack σ.depth k = some (.arr true sz xs) from (atS_top σ.L σ.H k).trans hB] at hap'
            simp only [] at hap'
            split at hap'
            · rename_i hh; exact hh.1.symm
            · cases hap'
      subst hn0
      rw [m1] at hp1
      injection hp1 with hp1
      simp only [Prod.mk.injEq] at hp1
      obtain ⟨rfl, _, _⟩ := hp1
      have hse := hI.sep d' k' B' σ.depth k _ b2 (hat _ _ _ hB') ((atS_top σ.L σ.H k).trans hB) (blkAt_mono hle hb') hbk
      exact hno d' k' B' hB' ⟨hse.1.symm, hse.2.symm⟩
    · have hst : atS (σ.L.set k (.arr false sz (xs ++ ys)) :: σ.H) d' k' = some B' := by
        rw [at_set hlt, if_neg (hno d' k' B' hB')]
        exact hat _ _ _ hB'
      exact s2.free hst (blkAt_mono (hle.trans (r2.pm.trans s1.pm)) hb') o

theorem putB_stack {i : Nat} (hH : σ.H.length = H0.length) : σ.stack = σ.L :: σ.H ∧ σ.depth = H0.length := ⟨rfl, hH⟩

theorem other_draw (hT : TOk P T) {wl : Nat} {W : Nat → Prop} (hW : W H0.length) (hlen : σ.H.length = H0.length) (hI : Inv F φ σ.stack w) (hE : EnvOk n ds F φ σ a) {o : Oper} {i : Nat}
    (hear : usesState o.op = true → Early φs L0 H0 F σ w) (hgone : σ.L[L0.length + i]? = some .gone) {r : OpR} {e : Eff}
    (h1 : readOther T L0 i o σ = some (r, e)) (h2 : effD T wl L0 i e σ = some σ1) : DStepTo P W φs L0 H0 F φ σ a w o false r σ1 := by
  unfold readOther at h1
  split at h1
  · rename_i hm
    have hu : usesState o.op = true := by
      cases ho : o.op <;> rw [ho] at hm <;> first | rfl | (simp [isMake] at hm; done)
    have hear := hear hu
    have hat := hear.at
    obtain ⟨e1, e2, i0⟩ := hear
    obtain ⟨q, hq, h1⟩ := Option.map_eq_some_iff.1 h1
    simp only [Prod.mk.injEq] at h1
    obtain ⟨rfl, rfl⟩ := h1
    injection h2 with h2
    subst h2
    obtain ⟨v, b⟩ := q
    rw [e1] at hq
    have hdep : σ.depth = σ.H.length := rfl
    have hlt : L0.length + i < σ.L.length := (List.getElem?_eq_some_iff.1 hgone).1
    obtain ⟨x, hx, u, w', F', φ', g1, g2, g3, g4⟩ := makeOp_ok (S' := σ.L.set (L0.length + i) b :: σ.H) (W := fun _ => False) hT hI hE.eval hq (by
      intro t len parts ho k' live sz xs hk hB hl
      have : live = false := by simpa using hl
      subst this
      exact hat _ _ _ hB) (by rfl) ⟨rfl, .inr (by unfold St.stack; rw [hdep, atS_top]; exact hgone), at_set hlt b⟩
    intro K Q hK hQ
    unfold Oper.wp
    rw [hx]
    simp only [Sem.run_bind, g1, Result.andThen_ok, Sem.run_pure, Oper.upon_value]
    refine hK v rfl F' φ' w' u (g2.weak (fun _ h => h.elim)) g3 g4 fun _ _ => ⟨e1, fun k hk => ?_, i0.frame g2.fm (fun i hi => g2.block i hi fun _ _ _ _ _ h => h) g3.cell⟩
    show (σ.L.set (L0.length + i) b)[k]? = _
    rw [List.getElem?_set, if_neg (by omega)]
    exact e2 k hk
  · obtain ⟨q, hq, h1⟩ := Option.map_eq_some_iff.1 h1
    simp only [Prod.mk.injEq] at h1
    obtain ⟨rfl, rfl⟩ := h1
    injection h2 with h2
    subst h2
    have hq' : pureOp T o σ σ.stack = some q := by
      cases hu : usesState o.op with
      | true =>
        have hear := hear hu
        have hat := hear.at
        obtain ⟨e1, e2, i0⟩ := hear
        rw [e1] at hq
        exact pureOp_mono hat hq
      | false => rw [pureOp_free T hu σ.stack (L0 :: σ.H)]; exact hq
    have ht := pureOp_ok hT hI hE.eval hq'
    intro K Q hK hQ
    cases q with
    | val p =>
      obtain ⟨u, hu, hr⟩ := ht
      unfold Oper.wp
      rw [hu]
      exact hK p rfl F φ w u (Adv.refl _ _ _ _ _) hI hr fun _ h => h
    | panic p =>
      obtain ⟨u, w', hu, hqt, hr⟩ := ht
      unfold Oper.wp
      rw [hu]
      exact hQ p rfl F φ w' u (Adv.same hqt.heap hqt.os hqt.tape hqt.output) (hI.same hqt.heap) hr

theorem dread_ok (hT : TOk P T) (hO : CallOk P O) {wl : Nat} {W : Nat → Prop} (hW : ∀ d, wl ≤ d ∨ d = H0.length → W d) (hlen : σ.H.length = H0.length) (hI : Inv F φ σ.stack w) (hE : EnvOk n ds F φ σ a) (hle : PM.le φs φ) {o : Oper} {i : Nat}
    (hear : usesState o.op = true → isStore o.op = false → Early φs L0 H0 F σ w) (hgone : σ.L[L0.length + i]? = some .gone) {r : OpR} {e : Eff}
    (h1 : readD T O wl L0 i o σ = some (r, e)) (h2 : effD T wl L0 i e σ = some σ1) : DStepTo P W φs L0 H0 F φ σ a w o (isStore o.op) r σ1 := by
  obtain ⟨dst, op, ty, pos, after, gd⟩ := o
  unfold readD at h1
  split at h1
  · rename_i t x y ho
    simp only [] at ho
    subst ho
    injection h1 with h1
    simp only [Prod.mk.injEq] at h1
    obtain ⟨rfl, rfl⟩ := h1
    have h3 : storeOp T wl t x y σ = some (.val undefP, σ1) := by
      unfold storeOp
      obtain ⟨S, hS, h2⟩ := Option.bind_eq_some_iff.1 h2
      rw [hS]
      simp [h2]
    have hst := (storeOp_ok (n := n) (dst := dst) (ty := ty) (pos := pos) (after := after) (gd := gd) hT (fun d hd => hW d (hd.imp id fun e => by rw [e]; exact hlen)) hI hE h3).1
    intro K Q hK hQ
    exact hst K Q (fun p hp F' φ' w' u q1 q2 q3 => hK p hp F' φ' w' u q1 q2 q3 (fun h => by cases h)) hQ
  · rename_i f args tys ho
    simp only [] at ho
    subst ho
    exact call_draw hO (hW _ (.inr rfl)) hI hE hle (hear rfl rfl) hgone h1 h2
  · rename_i args tys ho
    simp only [] at ho
    subst ho
    obtain ⟨q, hq, h1⟩ := Option.map_eq_some_iff.1 h1
    simp only [Prod.mk.injEq] at h1
    obtain ⟨rfl, rfl⟩ := h1
    injection h2 with h2
    subst h2
    exact app_draw hT hW hlen hI hE hle hq
  · cases h1
  · cases h1
  · rename_i hns _ _ _ _
    have hs : isStore op = false := by cases op <;> first | rfl | exact absurd rfl (hns _ _ _)
    rw [show isStore (Oper.op ⟨dst, op, ty, pos, after, gd⟩) = false from hs]
    exact other_draw hT (hW _ (.inr rfl)) hlen hI hE (fun hu => hear hu hs) hgone h1 h2


/-- A store into a box that the region has laid. -/
theorem own_ok (hT : TOk P T) {wl : Nat} {W : Nat → Prop} (hW : ∀ d, wl ≤ d ∨ d = H0.length → W d) (hlen : σ.H.length = H0.length) (hI : Inv F φ σ.stack w) (hE : EnvOk n ds F φ σ a) (hle : PM.le φs φ) {dst ty pos after gd} {t : Nat} {x y : Operand}
    (h : ownStore T wl L0 t (σ.eval x) (σ.eval y) σ = some σ1) : DStepTo P W φs L0 H0 F φ σ a w ⟨dst, .store t x y, ty, pos, after, gd⟩ false (.val undefP) σ1 := by
  obtain ⟨d, k, off, S, hx, hd, hk, hS, hws⟩ := ownStore_some h
  subst hd
  obtain ⟨B', hSeq⟩ := storeS_own hS
  have hra := hE.eval x
  rw [hx] at hra
  obtain ⟨b, S0, hp, hva⟩ : ∃ b S0, φ σ.H.length k 0 = some (b, S0, 0) ∧ a.eval x = .pointer (some ⟨b, off, none⟩) := by
    generalize a.eval x = va at hra
    cases hra with
    | data p v hl h => simp [isLeaf] at hl
    | ptr d k off b S0 hp => exact ⟨b, S0, hp, rfl⟩
  obtain ⟨w', h1, h2, h3⟩ := storeS_ok (W := W) hT hI (fun d hd => hW d (hd.imp id fun e => by
    have : σ.stack.length = σ.H.length + 1 := rfl
    omega)) (by rw [← hx]; exact hE.eval x) (hE.eval y) hS
  have hone := storeS_one hT hI hS hp (hE.eval y) h1 hva
  have hst := (withStack_some hws).1
  intro K Q hK hQ
  unfold Oper.wp
  simp only [execOp, Sem.run_bind, h1, Result.andThen_ok, Sem.run_pure, Oper.upon_skip]
  refine hK _ rfl F φ w' undef (by rw [hst]; exact h2) (by rw [hst]; exact h3) (rep_undef _ _) fun _ hear => ?_
  have hat := hear.at
  obtain ⟨e1, e2, i0⟩ := hear
  have hσ1 : σ1.H = σ.H ∧ σ1.L = σ.L.set k B' := by
    rw [hSeq] at hws
    injection hws with hws
    rw [← hws]
    exact ⟨rfl, rfl⟩
  refine ⟨hσ1.1.trans e1, fun j hj => ?_, ?_⟩
  · rw [hσ1.2, List.getElem?_set, if_neg (by omega)]
    exact e2 j hj
  · refine ⟨h3.cell, i0.new, fun d' k' B hB => (i0.blk d' k' B hB).keep (FM.le.refl _) (PM.le.refl _) (fun b' hb' => ⟨hone b' ?_, fun o => i0.free hB hb' o⟩), i0.sep, i0.top⟩
    rintro rfl
    have hB2 := hat d' k' B hB
    obtain ⟨B0, hB0, hne0⟩ := hI.new σ.H.length k 0 _ hp
    have hbox : blkAt φ σ.H.length k B0 = some b' := by
      have hr := hI.blk _ k _ hB0
      have hcs : ∃ cs, B0 = .box cs := by
        unfold storeS at hS
        cases ht : T t with
        | none => rw [ht] at hS; cases hS
        | some ti =>
          rw [ht] at hS
          simp only [] at hS
          split at hS
          · cases hS
          · split at hS
            · rw [hB0] at hS
              cases B0 with
              | box cs => exact ⟨cs, rfl⟩
              | _ => cases hS
            · cases hS
      obtain ⟨cs, rfl⟩ := hcs
      simp [blkAt, hp]
    obtain ⟨e3, e4⟩ := hI.sep d' k' B σ.H.length k B0 b' hB2 hB0 (blkAt_mono hle hb') hbox
    subst e3 e4
    rw [show σ.H.length = H0.length from hlen, atS_top] at hB
    have := (List.getElem?_eq_some_iff.1 hB).1
    omega

theorem dstep_ok (hT : TOk P T) (hO : CallOk P O) {wl : Nat} {W : Nat → Prop} {ops : Array Oper} (hW : ∀ d, wl ≤ d ∨ d = H0.length → W d) (hlen : σ.H.length = H0.length) (hI : Inv F φ σ.stack w) (hE : EnvOk n ds F φ σ a) (hle : PM.le φs φ) {o : Oper} {i : Nat}
    (hear : usesNow ops o = true → isStore o.op = false → Early φs L0 H0 F σ w) (hgone : σ.L[L0.length + i]? = some .gone) {r : OpR} {e : Eff}
    (h1 : readS T O wl ops L0 i o σ = some (r, e)) (h2 : effD T wl L0 i e σ = some σ1) : DStepTo P W φs L0 H0 F φ σ a w o (hard ops o) r σ1 := by
  unfold readS at h1
  cases hl : lateOf ops o with
  | true =>
    rw [hl] at h1
    obtain ⟨q, hq, h1⟩ := Option.map_eq_some_iff.1 h1
    simp only [Prod.mk.injEq] at h1
    obtain ⟨rfl, rfl⟩ := h1
    injection h2 with h2
    subst h2
    have hq' : pureOp T o σ σ.stack = some q := pureOp_mono (fun d k B h => by cases h) hq
    have ht := pureOp_ok hT hI hE.eval hq'
    intro K Q hK hQ
    cases q with
    | val p =>
      obtain ⟨u, hu, hr⟩ := ht
      unfold Oper.wp
      rw [hu]
      exact hK p rfl F φ w u (Adv.refl _ _ _ _ _) hI hr fun _ h => h
    | panic p =>
      obtain ⟨u, w', hu, hqt, hr⟩ := ht
      unfold Oper.wp
      rw [hu]
      exact hQ p rfl F φ w' u (Adv.same hqt.heap hqt.os hqt.tape hqt.output) (hI.same hqt.heap) hr
  | false =>
    rw [hl] at h1
    cases hn : newSt ops o with
    | true =>
      rw [hn] at h1
      simp only [cond_false, cond_true] at h1
      have hh : hard ops o = false := by unfold hard; rw [hn]; simp
      rw [hh]
      obtain ⟨dst, op, ty, pos, after, gd⟩ := o
      unfold readOwn at h1
      split at h1
      · rename_i t x y ho
        simp only [] at ho
        subst ho
        injection h1 with h1
        simp only [Prod.mk.injEq] at h1
        obtain ⟨rfl, rfl⟩ := h1
        exact own_ok hT hW hlen hI hE hle h2
      · cases h1
    | false =>
      rw [hn] at h1
      simp only [cond_false] at h1
      have hh : hard ops o = isStore o.op := by unfold hard; rw [hn]; simp
      rw [hh]
      cases hsl : sealOp ops o with
      | true =>
        rw [hsl] at h1
        simp only [cond_true] at h1
        obtain ⟨dst, op, ty, pos, after, gd⟩ := o
        unfold readSeal at h1
        split at h1
        · rename_i f args tys ho
          simp only [] at ho
          subst ho
          exact call_draw hO (hW _ (.inr rfl)) hI hE hle (hear (by unfold usesNow; rw [hl]; rfl) rfl) hgone h1 h2
        · cases h1
      | false =>
      rw [hsl] at h1
      simp only [cond_false] at h1
      exact dread_ok hT hO hW hlen hI hE hle (fun hu hs => hear (by unfold usesNow; rw [hu, hl]; rfl) hs) hgone h1 h2

end
end Go.GL
