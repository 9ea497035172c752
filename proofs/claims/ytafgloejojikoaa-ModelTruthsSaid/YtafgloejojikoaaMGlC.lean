/-
  GL, part C: append.
-/
import Derived.Test.YtafgloejojikoaaMGlZ
import Derived.Laws.AppendOwn
import Derived.Laws.IdiomCopy
set_option linter.unusedSimpArgs false
set_option linter.unusedVariables false
/-! GL, part C: append. -/
namespace Go.GL

section
variable {P : Program} {T : Tab} {F : FM} {φ : PM} {S S' : Heap} {w : World}

theorem run_grow (hT : TOk P T) {t t' e e' : Nat} {ti tj ei : TI} (ht : T t = some ti) (htd : ti.td = .slice e) (ht' : T t' = some tj) (htd' : tj.td = .slice e') (he : T e = some ei)
    {a a2 : Option Addr} {n cap m c2 : Nat} {D E : Array Value} (hD : (Builtin.firstCells ei.size n (.slice a n cap)).run P w.drew = .ok D w.drew) (hE : (Builtin.firstCells ei.size m (.slice a2 m c2)).run P w.drew = .ok E w.drew)
    (hg : cap < n + m) (hlim : (n + m) * ei.bytes ≤ lim) (hb : 0 < ei.bytes) (ty : TypeId) :
    (Builtin.append_ #[t, t'] ty #[.slice a n cap, .slice a2 m c2]).run P w =
      .ok (.slice (some ⟨w.heap.size, 0, none⟩) (n + m) (grownCap w (n + m) cap e)) (w.drew.alloc (.cells (D ++ E ++ Builtin.zeroCells (zeroV ei.zero).cells (grownCap w (n + m) cap e - (n + m))) e)) := by
  obtain ⟨hu, hr⟩ := td_slice hT ht htd w
  obtain ⟨hu', hr'⟩ := td_slice hT ht' htd' w
  obtain ⟨i, hi, hsz, hby, hz⟩ := hT.typeInfo_run he
  rw [← hsz] at hD hE
  have hn : ¬ (n + m ≤ cap) := by omega
  have hle : (n + m) * 1 ≤ (n + m) * ei.bytes := Nat.mul_le_mul_left _ hb
  have h63' : ¬ (9223372036854775807 < ((n : Int) + (m : Int))) := by simp only [lim] at hlim; omega
  have hfit := growslice_fits (need := n + m) (old := cap) (bytes := ei.bytes) (by omega) (by simp only [lim] at hlim; omega)
  have h48' : ¬ (281474976710656 < Builtin.nextslicecap (n + m) cap * i.bytes) := by rw [hby]; omega
  simp [Builtin.append_, run_underlying hu, run_underlying hu', sizeOf, typeInfo, zeroValue, hi, hz, Builtin.lenOf, hn, h63', h48', Question.forced, hD, hE, newRow, grownCap]

theorem RA.append {sz : Nat} {xs ys : List PV} {C D : Array Value} (hc : RA F sz xs C) (hd : RA F sz ys D) (E : Array Value) :
    (∀ x ∈ xs ++ ys, (cellsOf x).length = sz) ∧ ∀ (i : Nat) (x : PV) (j : Nat) (c : PV), (xs ++ ys)[i]? = some x → (cellsOf x)[j]? = some c → one c = true ∧ ∃ v, (C ++ D ++ E)[i * sz + j]? = some v ∧ RepD F c v := by
  have idx : ∀ {l : List PV} {i j : Nat} {x c : PV}, (∀ x ∈ l, (cellsOf x).length = sz) → l[i]? = some x → (cellsOf x)[j]? = some c → i * sz + j < l.length * sz := by
    intro l i j x c hl hx hc
    have h1 := (List.getElem?_eq_some_iff.1 hx).1
    have h2 := (List.getElem?_eq_some_iff.1 hc).1
    rw [hl x (List.mem_of_getElem? hx)] at h2
    have : (i + 1) * sz ≤ l.length * sz := Nat.mul_le_mul_right _ h1
    rw [Nat.add_mul] at this
    omega
  refine ⟨fun x hx => (List.mem_append.1 hx).elim (hc.2.1 x) (hd.2.1 x), fun i x j c hx hcc => ?_⟩
  by_cases hi : i < xs.length
  · rw [List.getElem?_append_left hi] at hx
    obtain ⟨h1, v, hv, hr⟩ := hc.2.2 i x j c hx hcc
    have := idx hc.2.1 hx hcc
    refine ⟨h1, v, ?_, hr⟩
    rw [Array.append_assoc, Array.getElem?_append_left (by rw [hc.1]; exact this)]
    exact hv
  · rw [List.getElem?_append_right (by omega)] at hx
    obtain ⟨h1, v, hv, hr⟩ := hd.2.2 _ x j c hx hcc
    have := idx hd.2.1 hx hcc
    have e : i * sz = xs.length * sz + (i - xs.length) * sz := by rw [← Nat.add_mul]; congr 1; omega
    refine ⟨h1, v, ?_, hr⟩
    rw [Array.getElem?_append_left (by rw [Array.size_append, hc.1, hd.1]; omega), Array.getElem?_append_right (by rw [hc.1]; omega), hc.1]
    rw [show i * sz + j - xs.length * sz = (i - xs.length) * sz + j by omega]
    exact hv

theorem rowOf_len (hI : Inv F φ S w) {ei : TI} {p : PV} {v : Value} (hp : Rep F φ p v) {ys : List PV} (h : rowOf ei S p = some ys) (w' : World) (hw : w'.heap = w.heap) :
    ∃ a cap D, v = .slice a ys.length cap ∧ (Builtin.firstCells ei.size ys.length v).run P w' = .ok D w' ∧ RA F ei.size ys D := rowOf_ok (hI.same hw) hp h

/-- A row of the call's own has grown in its place, or is laid anew. -/
theorem Inv.grow {d k sz : Nat} {xs zs : List PV} {w' : World} {W : Nat → Prop} (h : Inv F φ S w) (hB : atS S d k = some (.arr true sz xs)) (hw : W d) {b : Nat} {C : Array Value} {t : TypeId}
    (hos : w'.os = w.os) (htp : w'.tape = w.tape) (hou : w'.output = w.output) (hsize : w.heap.size ≤ w'.heap.size)
    (hh : ∀ i, i < w.heap.size → blkAt φ d k (.arr true sz xs) ≠ some i → w'.heap[i]? = w.heap[i]?)
    (hb : blkAt φ d k (.arr true sz xs) = some b ∨ w.heap.size ≤ b)
    (hl : xs.length < zs.length) (hC : w'.heap[b]? = some (.cells C t (0, 0))) (hzC : zs.length * sz ≤ C.size) (hs : ∀ x ∈ zs, (cellsOf x).length = sz)
    (hc : ∀ (i : Nat) (x : PV) (j : Nat) (c : PV), zs[i]? = some x → (cellsOf x)[j]? = some c → one c = true ∧ ∃ v, C[i * sz + j]? = some v ∧ RepD F c v) :
    Adv W F φ S w F (φ.put d k zs.length (b, C.size, sz)) (setS S d k (.arr true sz zs)) w' ∧ Inv F (φ.put d k zs.length (b, C.size, sz)) (setS S d k (.arr true sz zs)) w' := by
  have hnone : φ d k zs.length = none := by
    cases hx : φ d k zs.length with
    | none => rfl
    | some x =>
      have := h.top d k true sz xs zs.length x hB hx
      omega
  have hle := PM.le_put (x := (b, C.size, sz)) hnone
  have hself := PM.put_self φ d k zs.length (b, C.size, sz)
  have hF0 : ∀ o, F b o = none := fun o => by
    rcases hb with hb | hb
    · exact h.free hB hb o
    · cases hx : F b o with
      | none => rfl
      | some v => have := h.flt hx; omega
  have hcell : ∀ b' o v, F b' o = some v → w'.cell? ⟨b', o, none⟩ = some v := fun b' o v e => by
    have h1 := h.cell b' o v e
    have h2 := h.flt e
    unfold World.cell? at *
    simp only [hh b' h2 (fun e' => by rw [h.free hB e'] at e; cases e)]
    exact h1
  have hat := atS_setS hB (.arr true sz zs)
  refine ⟨⟨FM.le.refl _, hle, setS_length _ _ _ _, hos, htp, hou, hsize, fun i hi hn => ⟨hh i hi (fun e => hn d k _ hB e hw), fun _ => rfl⟩, fun d' k' B' i h1 h2 h3 => ?_⟩, ?_⟩
  · rw [hat] at h1
    split at h1
    · rename_i hd
      obtain ⟨rfl, rfl⟩ := hd
      injection h1 with h1
      subst h1
      simp only [blkAt, hself, Option.map_some, Option.some.injEq] at h2
      subst h2
      exact ⟨_, hB, hb.resolve_right (by omega)⟩
    · rename_i hd
      refine ⟨B', h1, ?_⟩
      unfold blkAt at *
      split at h2
      · obtain ⟨x, hx, rfl⟩ := Option.map_eq_some_iff.1 h2
        exact Option.map_eq_some_iff.2 ⟨x, (PM.put_inv hx).resolve_right hd, rfl⟩
      · obtain ⟨x, hx, rfl⟩ := Option.map_eq_some_iff.1 h2
        exact Option.map_eq_some_iff.2 ⟨x, (PM.put_inv hx).resolve_right hd, rfl⟩
      · obtain ⟨x, hx, rfl⟩ := Option.map_eq_some_iff.1 h2
        exact Option.map_eq_some_iff.2 ⟨x, (PM.put_inv hx).resolve_right hd, rfl⟩
      · cases h2
  · refine h.upd (FM.le.refl _) hle hat (fun d' k' n' x hx => PM.put_inv hx) (fun e => by cases e) hcell
      (fun d' k' B' b' hd h1 h2 => ⟨hh b' (h.lt h1 h2) (fun e => hd (h.sep d k _ d' k' B' b' hB h1 e h2)), h.free h1 h2⟩)
      ⟨b, C, t, hself, hC, hzC, hs, hc, hF0⟩ (fun b' hb' d' k' B' hd h1 h2 => ?_) (fun live sz' xs' e n' x hx => ?_)
    · simp only [blkAt, hself, Option.map_some, Option.some.injEq] at hb'
      subst hb'
      rcases hb with hb | hb
      · exact hd (h.sep d k _ d' k' B' b hB h1 hb h2)
      · have := h.lt h1 h2; omega
    · injection e with e1 e2 e3
      subst e3
      unfold PM.put at hx
      split at hx
      · rename_i hh'; omega
      · have := h.top d k true sz xs n' x hB hx; omega

theorem append_ok (hT : TOk P T) {L : List Blk} {H : Heap} (hI : Inv F φ (L :: H) w) {W : Nat → Prop} {wl : Nat} (hW : ∀ d, wl ≤ d ∨ d = H.length → W d) {t t' e e' : Nat} {ti tj : TI} (ht : T t = some ti) (htd : ti.td = .slice e) (ht' : T t' = some tj) (htd' : tj.td = .slice e')
    {a b v : PV} {va vb : Value} (ha : Rep F φ a va) (hb : Rep F φ b vb) {g : Heap → Heap} (h : appendP T wl e a b (L :: H) H.length L.length = some (v, g)) (ty : TypeId) :
    ∃ u w' F' φ', (Builtin.append_ #[t, t'] ty #[va, vb]).run P w = .ok u w' ∧ Adv W F φ (L :: H) w F' φ' (g (L :: H)) w' ∧ Inv F' φ' (g (L :: H)) w' ∧ Rep F' φ' v u ∧
      ∀ i, i < w.heap.size → (∀ d k n sz b S0, a = .own d k n sz → φ d k n = some (b, S0, sz) → i ≠ b) → w'.heap[i]? = w.heap[i]? := by
  unfold appendP at h
  cases he : T e with
  | none => rw [he] at h; cases h
  | some ei =>
  rw [he] at h
  simp only [] at h
  cases hrow : rowOf ei (L :: H) b with
  | none => rw [hrow] at h; cases h
  | some ys =>
  rw [hrow] at h
  simp only [] at h
  obtain ⟨a2, c2, E, hvb, hE, hRE⟩ := rowOf_len (P := P) hI hb hrow w rfl
  obtain ⟨a2', c2', E', hvb', hE', hRE'⟩ := rowOf_len (P := P) hI hb hrow w.drew rfl
  subst hvb
  injection hvb' with q1 q2 q3
  subst q1 q3
  obtain ⟨hu, hr⟩ := td_slice hT ht htd w
  obtain ⟨hu', hr'⟩ := td_slice hT ht' htd' w
  obtain ⟨i, hi, hsz, hby, hz⟩ := hT.typeInfo_run he
  split at h
  · rename_i xs
    split at h
    · rename_i hh
      obtain ⟨hb0, hlim, hall⟩ := hh
      obtain ⟨a1, b1, o1, cap, sz, cv, rfl, hc, hf, haa, hs, h1, hF, hR⟩ := rep_lst ha
      have hcap := hf rfl
      subst hcap
      have hs' : ∀ x ∈ xs, (cellsOf x).length = ei.size := fun x hx => by simpa using List.all_eq_true.1 hall x hx
      split at h
      · rename_i hemp
        rw [List.isEmpty_iff] at hemp
        subst hemp
        injection h with h
        simp only [Prod.mk.injEq] at h
        obtain ⟨rfl, rfl⟩ := h
        have hE0 : E = #[] := Array.eq_empty_of_size_eq_zero (by have := hRE.1; simpa using this)
        subst hE0
        refine ⟨.slice a1 xs.length xs.length, w, F, φ, ?_, Adv.refl _ _ _ _ _, hI, ha, fun _ _ _ => rfl⟩
        rw [← hsz] at hE
        cases a1 with
        | none => rw [List.length_nil] at hE; simp [Builtin.append_, run_underlying hu, run_underlying hu', sizeOf, typeInfo, hi, Builtin.lenOf, hE]
        | some a1 => rw [List.length_nil] at hE; simp [Builtin.append_, run_underlying hu, run_underlying hu', sizeOf, typeInfo, hi, Builtin.lenOf, hE, storeCells]
      · rename_i hemp
        injection h with h
        simp only [Prod.mk.injEq] at h
        obtain ⟨rfl, rfl⟩ := h
        have hpos : 0 < ys.length := by
          cases ys with
          | nil => simp at hemp
          | cons y ys => simp
        have hF' : ∀ (i : Nat) (x : PV) (j : Nat) (c : PV), xs[i]? = some x → (cellsOf x)[j]? = some c → w.drew.cell? ⟨b1, o1 + i * ei.size + j, none⟩ = some (cv i j) := fun i x j c hx hcc => by
          have hm := List.mem_of_getElem? hx
          rw [← hs' x hm, hs x hm]
          exact hI.cell _ _ _ (hF i x j c hx hcc)
        obtain ⟨D, hD, hRD⟩ := run_first (P := P) (w := w.drew) (cap := xs.length) (hI.same rfl) haa hs' h1 hF' hR
        have hrun := run_grow hT ht htd ht' htd' he hD hE' (by omega) hlim hb0 ty
        obtain ⟨r1, r2⟩ := hRD.append hRE' (Builtin.zeroCells (zeroV ei.zero).cells (grownCap w (xs.length + ys.length) xs.length e - (xs.length + ys.length)))
        have hge := grownCap_ge w (xs.length + ys.length) xs.length e
        obtain ⟨_, hzok, hzl, _⟩ := hT.ok e ei he
        obtain ⟨fl1, fl2⟩ := zeroOk_flat hzok
        have hzs := ((rep_zero F φ hzok).cells fl1 fl2).1
        have i2 : Inv F φ (L :: H) w.drew := hI.same rfl
        obtain ⟨φ', m1, m2, m3⟩ := i2.make_arr (S' := (L ++ [.arr true ei.size (xs ++ ys)]) :: H) (d := H.length) (k := L.length) (t := e) (xs := xs ++ ys) (sz := ei.size) (cap := grownCap w (xs.length + ys.length) xs.length e) W (.inl (at_free L H)) rfl (at_push L H _) (by simpa using hge)
          (by
            simp only [Array.size_append, size_zeroCells, hzs, hzl, hRD.1, hRE'.1]
            rw [← Nat.add_mul, ← Nat.add_mul]
            refine Nat.mul_le_mul_right _ ?_
            omega) r1 r2
        refine ⟨_, _, F, φ', hrun, (Adv.same (W := W) (F := F) (φ := φ) (S := L :: H) (w := w) (w' := w.drew) rfl rfl rfl rfl).trans m1, m2, ?_, fun i hi _ => alloc_heap w.drew _ i hi⟩
        simpa using m3
    · cases h
  · rename_i d k n sz
    cases hB : atS (L :: H) d k with
    | none => rw [hB] at h; cases h
    | some B =>
    rw [hB] at h
    cases B with
    | arr live sz' xs =>
      cases live with
      | false => cases h
      | true =>
      simp only [] at h
      split at h
      · rename_i hh
        obtain ⟨hn, rfl, hse, hw, hb0, hlim⟩ := hh
        injection h with h
        simp only [Prod.mk.injEq] at h
        obtain ⟨rfl, rfl⟩ := h
        have hw' : W d := hW d hw
        cases ha with
        | data p v hl h => simp [isLeaf] at hl
        | own d k n sz b0 S0 cap hp hncap hS0 =>
        obtain ⟨b', C, tt, g1, g2, g3, g4, g5, g6⟩ := hI.blk d k _ hB
        subst hn
        subst hse
        rw [g1] at hp
        injection hp with hp
        simp only [Prod.mk.injEq] at hp
        obtain ⟨rfl, rfl, _⟩ := hp
        have hbat : blkAt φ d k (.arr true ei.size xs) = some b' := by simp [blkAt, g1]
        by_cases hroom : xs.length + ys.length ≤ cap
        · -- there is room
          have hone : ∀ u ∈ E.toList, u.oneCell' = true := by
            intro u hu
            obtain ⟨m, hm⟩ := List.getElem?_of_mem hu
            have hm' : E[m]? = some u := by simpa using hm
            have hlt := (Array.getElem?_eq_some_iff.1 hm').1
            rw [hRE.1] at hlt
            have hpos : 0 < ei.size := by
              rcases Nat.eq_zero_or_pos ei.size with e0 | e0
              · rw [e0] at hlt; simp at hlt
              · exact e0
            have hi' : m / ei.size < ys.length := (Nat.div_lt_iff_lt_mul hpos).2 hlt
            have hx : ys[m / ei.size]? = some ys[m / ei.size] := List.getElem?_eq_getElem hi'
            have hj : m % ei.size < (cellsOf ys[m / ei.size]).length := by rw [hRE.2.1 _ (List.getElem_mem hi')]; exact Nat.mod_lt _ hpos
            obtain ⟨o1, u', hu', hr'⟩ := hRE.2.2 _ _ _ _ hx (List.getElem?_eq_getElem hj)
            rw [Nat.mul_comm, Nat.div_add_mod, hm'] at hu'
            injection hu' with hu'
            subst hu'
            rw [oneCell_iff]
            exact (Rep.of_data (φ := φ) hr').one_ o1
          have hfit : xs.length * ei.size + E.size ≤ C.size := by
            rw [hRE.1, ← Nat.add_mul]
            exact Nat.le_trans (Nat.mul_le_mul_right _ hroom) hS0
          have hst := run_storeCells_at P b' (xs.length * ei.size) tt E.toList 0 C w g2 (by simpa using hfit) hone
          simp only [Nat.add_zero, Array.length_toList] at hst
          have hst' : (storeCells ⟨b', xs.length * ei.size, none⟩ E.toList 0).run P w = .ok () (w.setRow b' (putRow C (xs.length * ei.size) E)) := by simpa [putRow] using hst
          have hrun : (Builtin.append_ #[t, t'] ty #[.slice (some ⟨b', 0, none⟩) xs.length cap, .slice a2 ys.length c2]).run P w = .ok (.slice (some ⟨b', 0, none⟩) (xs.length + ys.length) cap) (w.setRow b' (putRow C (xs.length * ei.size) E)) := by
            have hE2 := hE
            rw [← hsz] at hE2 hst'
            simp [Builtin.append_, run_underlying hu, run_underlying hu', sizeOf, typeInfo, hi, Builtin.lenOf, hroom, hE2, Addr.add_lit, hst']
            rw [hsz]
          by_cases hemp : ys = []
          · subst hemp
            have hE0 : E = #[] := Array.eq_empty_of_size_eq_zero (by have := hRE.1; simpa using this)
            subst hE0
            have hput : putRow C (xs.length * ei.size) #[] = C := by
              apply Array.ext'
              simp [putRow]
            rw [hput] at hrun
            obtain ⟨w1, w2⟩ := hI.write (S' := setS (L :: H) d k (.arr true ei.size (xs ++ []))) (W := W) (C := C) hB hbat hw' (setS_length _ _ _ _) (atS_setS hB _) (by simp) (by simpa using hbat)
              (by rw [List.append_nil]; exact ⟨b', C, tt, g1, setRow_heap w b' C _ tt _ g2, g3, g4, g5, g6⟩)
              (fun live sz' xs' e n' x hx => by injection e with e1 e2 e3; subst e3; simpa using hI.top _ _ _ _ _ _ _ hB hx)
            exact ⟨_, _, F, φ, hrun, w1, w2, by simpa using Rep.own d k xs.length ei.size b' C.size cap g1 hncap hS0, fun i _ hne => setRow_other w b' i C (hne _ _ _ _ _ _ rfl g1)⟩
          · have hps := putRow_size C E (xs.length * ei.size) hfit
            have hlt : xs.length < (xs ++ ys).length := by
              cases ys with
              | nil => exact absurd rfl hemp
              | cons y ys => simp
            have hCx : RA F ei.size xs ((C.toList.take (xs.length * ei.size)).toArray) := by
              refine ⟨by simp; omega, g4, fun i x j c hx hcc => ?_⟩
              obtain ⟨o1, v, hv, hr⟩ := g5 i x j c hx hcc
              refine ⟨o1, v, ?_, hr⟩
              have h1 := (List.getElem?_eq_some_iff.1 hx).1
              have h2 := (List.getElem?_eq_some_iff.1 hcc).1
              rw [g4 x (List.mem_of_getElem? hx)] at h2
              have : (i + 1) * ei.size ≤ xs.length * ei.size := Nat.mul_le_mul_right _ h1
              rw [Nat.add_mul] at this
              rw [List.getElem?_toArray, List.getElem?_take_of_lt (by omega)]
              simpa using hv
            obtain ⟨r1, r2⟩ := hCx.append hRE ((C.toList.drop (xs.length * ei.size + E.size)).toArray)
            have hput : (C.toList.take (xs.length * ei.size)).toArray ++ E ++ (C.toList.drop (xs.length * ei.size + E.size)).toArray = putRow C (xs.length * ei.size) E := by
              apply Array.ext'
              simp [putRow]
            rw [hput] at r2
            obtain ⟨w1, w2⟩ := hI.grow (zs := xs ++ ys) (w' := w.setRow b' (putRow C (xs.length * ei.size) E)) (b := b') (C := putRow C (xs.length * ei.size) E) (t := tt) hB hw' rfl rfl rfl (by simp)
              (fun i hi hn => setRow_other w b' i _ (fun e => hn (by rw [hbat, e]))) (.inl hbat) hlt (setRow_heap w b' C _ tt _ g2)
              (by rw [hps, List.length_append]; exact Nat.le_trans (Nat.mul_le_mul_right _ hroom) hS0) r1 r2
            refine ⟨_, _, F, _, hrun, w1, w2, ?_, fun i _ hne => setRow_other w b' i _ (hne _ _ _ _ _ _ rfl g1)⟩
            have := PM.put_self φ d k (xs ++ ys).length (b', (putRow C (xs.length * ei.size) E).size, ei.size)
            have hl2 : (xs ++ ys).length = xs.length + ys.length := by simp
            rw [hl2] at this ⊢
            exact .own _ _ _ _ _ _ _ this hroom (by rw [hps]; exact hS0)
        · -- it is laid anew
          have hpos : xs.length < (xs ++ ys).length := by simp; omega
          have i2 : Inv F φ (L :: H) w.drew := hI.same rfl
          obtain ⟨D, hD, hRD⟩ := run_first (P := P) (w := w.drew) (F := F) (φ := φ) (xs := xs) (a := some ⟨b', 0, none⟩) (b := b') (o := 0) (cap := cap) (sz := ei.size) (cv := fun i j => (C[i * ei.size + j]?).getD .nilFunc) i2 (fun _ => rfl) g4
            (fun x hx c hcc => by
              obtain ⟨i, hi⟩ := List.getElem?_of_mem hx
              obtain ⟨j, hj⟩ := List.getElem?_of_mem hcc
              exact (g5 i x j c hi hj).1)
            (fun i x j c hx hcc => by
              obtain ⟨_, v, hv, _⟩ := g5 i x j c hx hcc
              have g2' : w.drew.heap[b']? = some (.cells C tt (0, 0)) := g2
              simp [World.cell?, g2', hv])
            (fun i x j c hx hcc => by
              obtain ⟨_, v, hv, hr⟩ := g5 i x j c hx hcc
              simp only [hv, Option.getD_some]
              exact hr)
          have hrun := run_grow hT ht htd ht' htd' he hD hE' (by omega) hlim hb0 ty
          obtain ⟨r1, r2⟩ := hRD.append hRE' (Builtin.zeroCells (zeroV ei.zero).cells (grownCap w (xs.length + ys.length) cap e - (xs.length + ys.length)))
          have hge := grownCap_ge w (xs.length + ys.length) cap e
          obtain ⟨_, hzok, hzl, _⟩ := hT.ok e ei he
          obtain ⟨fl1, fl2⟩ := zeroOk_flat hzok
          have hzs := ((rep_zero F φ hzok).cells fl1 fl2).1
          have hsize : grownCap w (xs.length + ys.length) cap e * ei.size ≤ (D ++ E' ++ Builtin.zeroCells (zeroV ei.zero).cells (grownCap w (xs.length + ys.length) cap e - (xs.length + ys.length))).size := by
            simp only [Array.size_append, size_zeroCells, hzs, hzl, hRD.1, hRE'.1]
            rw [← Nat.add_mul, ← Nat.add_mul]
            refine Nat.mul_le_mul_right _ ?_
            omega
          obtain ⟨w1, w2⟩ := i2.grow (zs := xs ++ ys) (w' := w.drew.alloc (.cells (D ++ E' ++ Builtin.zeroCells (zeroV ei.zero).cells (grownCap w (xs.length + ys.length) cap e - (xs.length + ys.length))) e)) (b := w.heap.size)
            (C := D ++ E' ++ Builtin.zeroCells (zeroV ei.zero).cells (grownCap w (xs.length + ys.length) cap e - (xs.length + ys.length))) (t := e) hB hw' rfl rfl rfl (by rw [alloc_size]; omega)
            (fun i hi _ => alloc_heap w.drew _ i hi) (.inr (Nat.le_refl _)) hpos (alloc_new w.drew _)
            (Nat.le_trans (Nat.mul_le_mul_right _ (by simpa using hge)) hsize) r1 r2
          refine ⟨_, _, F, _, hrun, (Adv.same (W := W) (F := F) (φ := φ) (S := L :: H) (w := w) (w' := w.drew) rfl rfl rfl rfl).trans w1, w2, ?_, fun i hi _ => alloc_heap w.drew _ i hi⟩
          have := PM.put_self φ d k (xs ++ ys).length (w.heap.size, (D ++ E' ++ Builtin.zeroCells (zeroV ei.zero).cells (grownCap w (xs.length + ys.length) cap e - (xs.length + ys.length))).size, ei.size)
          have hl2 : (xs ++ ys).length = xs.length + ys.length := by simp
          rw [hl2] at this ⊢
          exact .own _ _ _ _ _ _ _ this hge hsize
      · cases h
    | _ => cases h
  · cases h

end
end Go.GL
