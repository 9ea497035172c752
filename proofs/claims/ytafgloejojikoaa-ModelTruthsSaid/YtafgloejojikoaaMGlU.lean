/-
  GL, part U: the other operations that touch no state; all of them together.
-/
import Derived.Test.YtafgloejojikoaaMGlQ
set_option linter.unusedSimpArgs false
set_option linter.unusedVariables false
/-! GL, part U: the other operations that touch no state; all of them together. -/
namespace Go.GL

section
variable {P : Program} {T : Tab} (hT : TOk P T) {F : FM} {φ : PM} {S : Heap} {w : World} (hI : Inv F φ S w)

theorem td_struct {t : Nat} {ti : TI} {fs : List (Nat × Nat)} (hT : TOk P T) (ht : T t = some ti) (htd : ti.td = .struct fs) (w : World) :
    ∃ D : Array Field, P.underlying t = some (.struct D) ∧ (underlying t).run P w = .ok (.struct D) w ∧ fs = D.toList.map fun f => (f.offset, f.type) := by
  obtain ⟨D, hD, hr, hd⟩ := hT.und_run ht w
  rw [htd] at hd
  cases D <;> simp [tdOf] at hd
  exact ⟨_, hD, hr, hd.symm⟩

theorem field_of {D : Array Field} {fs : List (Nat × Nat)} (he : fs = D.toList.map fun f => (f.offset, f.type)) {f off ft : Nat} (hf : fs[f]? = some (off, ft)) : ∃ fd, D[f]? = some fd ∧ fd.offset = off ∧ fd.type = ft := by
  subst he
  rw [List.getElem?_map] at hf
  obtain ⟨fd, h1, h2⟩ := Option.map_eq_some_iff.1 hf
  simp only [Prod.mk.injEq] at h2
  exact ⟨fd, by simpa using h1, h2⟩

theorem fieldAddr_ok (hT : TOk P T) {t f : Nat} {ti fti : TI} {fs : List (Nat × Nat)} {off ft : Nat} (ht : T t = some ti) (htd : ti.td = .struct fs) (hf : fs[f]? = some (off, ft)) (hft : T ft = some fti) (hz : fti.size ≠ 0) (b o : Nat) :
    (Instr.fieldAt t (.pointer (some ⟨b, o, none⟩)) f).run P w = .ok (.pointer (some ⟨b, o + off, none⟩)) w := by
  obtain ⟨D, hD, hr, he⟩ := td_struct hT ht htd w
  obtain ⟨fd, h1, h2, h3⟩ := field_of he hf
  have hs := hT.run_size hft w
  subst h2 h3
  simp [Instr.fieldAt, hr, h1, Instr.sureAddr, fieldPlace, hs, hz, add_off]

/-- A part of a value. -/
theorem run_part (hT : TOk P T) {t : Nat} {ti : TI} (ht : T t = some ti) {cs : List PV} {C : Array Value} (h : RC F φ cs C) {off : Nat} {p : PV} (hl : loadV ti cs off = some p) :
    ∃ u, (part t C off).run P w = .ok u w ∧ Rep F φ p u := by
  have ha := hT.run_isAgg ht w
  have hz := hT.run_size ht w
  unfold loadV at hl
  cases hag : ti.td.isAgg with
  | false =>
    simp only [hag, Bool.false_eq_true, if_false] at hl
    obtain ⟨h1, v, hv, hr⟩ := h.2 off p hl
    exact ⟨v, by simp [part, ha, hag, hv], hr⟩
  | true =>
    simp only [hag, if_true] at hl
    split at hl
    · rename_i hle
      injection hl with hl
      subst hl
      refine ⟨.agg (C.extract off (off + ti.size)), by simp [part, ha, hag, hz], ?_⟩
      have hC := h.1
      refine .agg _ _ (by simp; omega) (fun c hc => ?_) fun j c v hc hv => ?_
      · obtain ⟨j, hj⟩ := List.getElem?_of_mem hc
        have hj' : j < ti.size := by
          have := (List.getElem?_eq_some_iff.1 hj).1
          simp at this; omega
        rw [List.getElem?_take_of_lt hj', List.getElem?_drop] at hj
        exact (h.2 _ c hj).1
      · have hj' : j < ti.size := by
          have := (List.getElem?_eq_some_iff.1 hc).1
          simp at this; omega
        rw [List.getElem?_take_of_lt hj', List.getElem?_drop] at hc
        obtain ⟨_, v', hv', hr⟩ := h.2 _ c hc
        rw [Array.getElem?_extract] at hv
        rw [if_pos (by omega), hv'] at hv
        injection hv with hv
        subst hv
        exact hr
    · cases hl

theorem rep_agg {cs : List PV} {v : Value} (h : Rep F φ (.agg cs) v) : ∃ C, v = .agg C ∧ RC F φ cs C := by
  cases h with
  | data p v hl h => simp [isLeaf] at hl
  | agg cs vs hl h1 h =>
    refine ⟨vs, rfl, hl, fun j c hc => ⟨h1 c (List.mem_of_getElem? hc), ?_⟩⟩
    have hlt : j < vs.size := by
      have := (List.getElem?_eq_some_iff.1 hc).1
      omega
    exact ⟨vs[j], by simp [hlt], h j c _ hc (by simp [hlt])⟩

theorem bound_ok {k : IntKind} {x : Int} {y : Nat} (c : BoundsCode) (w : World) : (x < 0 ∨ (y : Int) < x → ∃ u w', (Instr.sliceBound (.int k x) y c).run P w = .halt (.panic u) w' ∧ Quiet w w') ∧
    (¬ (x < 0 ∨ (y : Int) < x) → (Instr.sliceBound (.int k x) y c).run P w = .ok x.toNat w) := by
  constructor
  · intro h
    obtain ⟨u, w', hb, hq⟩ := run_bounds P w (α := Nat) k x y c
    have hn : ¬ (0 ≤ x ∧ x ≤ (y : Int)) := by omega
    exact ⟨u, w', by simp [Instr.sliceBound, asIntOf, hn, hb], hq⟩
  · intro h
    have hn : 0 ≤ x ∧ x ≤ (y : Int) := by omega
    simp [Instr.sliceBound, asIntOf, hn]

theorem strCut_ok (hT : TOk P T) {t : Nat} {ti : TI} (ht : T t = some ti) (htd : ti.td = .str) {b : ByteArray} {lo hi : Option PV} {lo' hi' : Option Value}
    (hlo : ∀ p, lo = some p → ∃ v, lo' = some v ∧ Rep F φ p v) (hlo' : lo = none → lo' = none) (hhi : ∀ p, hi = some p → ∃ v, hi' = some v ∧ Rep F φ p v) (hhi' : hi = none → hi' = none)
    {r : OpR} (h : strCut b lo hi = some r) : Tells P F φ w (Instr.sliceAt t (.string b) lo' hi' none) r := by
  obtain ⟨D, hD, hr, hd⟩ := hT.und_run ht w
  have hD' : D = .string := by rw [htd] at hd; cases D <;> first | rfl | simp [tdOf] at hd
  subst hD'
  have e0 : (Instr.sliceAt t (.string b) lo' hi' none).run P w = ((Instr.sliceBounds false b.size b.size lo' hi' none).run P w).andThen fun q w' => .ok (.string (b.extract q.1 q.2.1)) w' := by
    simp [Instr.sliceAt, hr, Instr.slice]
  unfold strCut at h
  split at h
  · rename_i k hn
    obtain ⟨v, rfl, hv⟩ := hhi _ rfl
    have := rep_int hv; subst this
    have := hlo' rfl; subst this
    obtain ⟨b1, b2⟩ := bound_ok (P := P) (k := k) (x := hn) (y := b.size) .sliceAlen w
    split at h <;> rename_i hc <;> (injection h with h; subst h)
    · obtain ⟨u, w', hb, hq⟩ := b1 hc
      exact .panic (by rw [e0]; simp [Instr.sliceBounds, hb]; rfl) hq
    · refine ⟨_, ?_, .str' _⟩
      rw [e0]; simp [Instr.sliceBounds, b2 hc]
  · rename_i k ln
    obtain ⟨v, rfl, hv⟩ := hlo _ rfl
    have := rep_int hv; subst this
    have := hhi' rfl; subst this
    obtain ⟨b1, b2⟩ := bound_ok (P := P) (k := k) (x := ln) (y := b.size) .sliceB w
    split at h <;> rename_i hc <;> (injection h with h; subst h)
    · obtain ⟨u, w', hb, hq⟩ := b1 hc
      exact .panic (by rw [e0]; simp [Instr.sliceBounds, hb]; rfl) hq
    · refine ⟨_, ?_, .str' _⟩
      rw [e0]; simp [Instr.sliceBounds, b2 hc]
  · rename_i k ln k' hn
    obtain ⟨v, rfl, hv⟩ := hlo _ rfl
    have := rep_int hv; subst this
    obtain ⟨v, rfl, hv⟩ := hhi _ rfl
    have := rep_int hv; subst this
    obtain ⟨b1, b2⟩ := bound_ok (P := P) (k := k') (x := hn) (y := b.size) .sliceAlen w
    obtain ⟨b3, b4⟩ := bound_ok (P := P) (k := k) (x := ln) (y := hn.toNat) .sliceB w
    split at h <;> rename_i hc <;> (injection h with h; subst h)
    · by_cases hh : hn < 0 ∨ (b.size : Int) < hn
      · obtain ⟨u, w', hb, hq⟩ := b1 hh
        exact .panic (by rw [e0]; simp [Instr.sliceBounds, hb]; rfl) hq
      · obtain ⟨u, w', hb, hq⟩ := b3 (by omega)
        exact .panic (by rw [e0]; simp [Instr.sliceBounds, b2 hh, hb]; rfl) hq
    · refine ⟨_, ?_, .str' _⟩
      rw [e0]; simp [Instr.sliceBounds, b2 (by omega), b4 (by omega)]
  · cases h


theorem drop_all {xs : List PV} {sz n : Nat} (h : xs.all (fun x => (cellsOf x).length == n) = true) (hs : ∀ x ∈ xs, (cellsOf x).length = sz) : xs ≠ [] → sz = n := by
  intro hne
  cases xs with
  | nil => exact absurd rfl hne
  | cons x l =>
    simp only [List.all_cons, Bool.and_eq_true, beq_iff_eq] at h
    rw [← hs x (by simp), h.1]

/-- A part of a row is a row. -/
theorem rep_cut {full : Bool} {xs : List PV} {a : Option Addr} {b o cap sz : Nat} {cv : Nat → Nat → Value} (hc : xs.length ≤ cap)
    (ha : xs ≠ [] → a = some ⟨b, o, none⟩) (hs : ∀ x ∈ xs, (cellsOf x).length = sz) (h1 : ∀ x ∈ xs, ∀ c ∈ cellsOf x, one c = true)
    (hF : ∀ (i : Nat) (x : PV) (j : Nat) (c : PV), xs[i]? = some x → (cellsOf x)[j]? = some c → F b (o + i * sz + j) = some (cv i j))
    (hR : ∀ (i : Nat) (x : PV) (j : Nat) (c : PV), xs[i]? = some x → (cellsOf x)[j]? = some c → RepD F c (cv i j))
    {l h : Nat} (hl : l ≤ h) (hh : h ≤ xs.length) {cap' : Nat} (hcap : h - l ≤ cap') (hfull : full = true → cap' = h - l) {a' : Option Addr} (ha' : l < h → a' = some ⟨b, o + l * sz, none⟩) :
    Rep F φ (.lst full ((xs.take h).drop l)) (.slice a' (h - l) cap') := by
  have hlen : ((xs.take h).drop l).length = h - l := by simp; omega
  have get : ∀ {i : Nat} {x : PV}, ((xs.take h).drop l)[i]? = some x → xs[l + i]? = some x := fun {i x} e => by
    rw [List.getElem?_drop] at e
    have hlt : l + i < h := by
      have := (List.getElem?_eq_some_iff.1 e).1
      simp at this; omega
    rwa [List.getElem?_take_of_lt hlt] at e
  have hmem : ∀ {x : PV}, x ∈ (xs.take h).drop l → x ∈ xs := fun hx => List.mem_of_mem_take (List.mem_of_mem_drop hx)
  have := RepD.lst (F := F) full ((xs.take h).drop l) a' b (o + l * sz) cap' sz (fun i j => cv (l + i) j) (by rw [hlen]; exact hcap) (fun e => by rw [hlen]; exact hfull e)
    (fun hne => ha' (by
      rcases Nat.lt_or_ge l h with h' | h'
      · exact h'
      · exact absurd (List.eq_nil_of_length_eq_zero (by rw [hlen]; omega)) hne)) (fun x hx => hs x (hmem hx)) (fun x hx => h1 x (hmem hx))
    (fun i x j c hx hcj => by
      have := hF (l + i) x j c (get hx) hcj
      rw [Nat.add_mul] at this
      rw [show o + l * sz + i * sz + j = o + (l * sz + i * sz) + j by omega]
      exact this) (fun i x j c hx hcj => hR (l + i) x j c (get hx) hcj)
  rw [hlen] at this
  exact .data _ _ rfl this

theorem lstCut_ok (hT : TOk P T) {t e : Nat} {ti ei : TI} (ht : T t = some ti) (htd : ti.td = .slice e) (he : T e = some ei) {full : Bool} {xs : List PV} {v : Value} (hv : Rep F φ (.lst full xs) v) {lo hi : Option PV} {lo' hi' : Option Value}
    (hlo : ∀ p, lo = some p → ∃ v, lo' = some v ∧ Rep F φ p v) (hlo' : lo = none → lo' = none) (hhi : ∀ p, hi = some p → ∃ v, hi' = some v ∧ Rep F φ p v) (hhi' : hi = none → hi' = none)
    {r : OpR} (h : lstCut ei.size full xs lo hi = some r) : Tells P F φ w (Instr.sliceAt t v lo' hi' none) r := by
  obtain ⟨a, b, o, cap, sz, cv, rfl, hc, hf, ha, hs, h1, hF, hR⟩ := rep_lst hv
  obtain ⟨D, hD, hr, hd⟩ := hT.und_run ht w
  have hD' : D = .slice e := by rw [htd] at hd; cases D <;> simp [tdOf] at hd; rw [hd]
  subst hD'
  have hz := hT.run_size he w
  have e1 : ∀ (l h m : Nat), (Instr.sliceBounds true xs.length cap lo' hi' none).run P w = .ok (l, h, m) w →
      (Instr.sliceAt t (.slice a xs.length cap) lo' hi' none).run P w = .ok (.slice (if m = l then a else a.map (·.add (l * ei.size))) (h - l) (m - l)) w := by
    intro l h m hq
    simp [Instr.sliceAt, hr, Instr.slice, hq, hz]
  have e2 : ∀ (u : Value) (w' : World), (Instr.sliceBounds true xs.length cap lo' hi' none).run P w = .halt (.panic u) w' →
      (Instr.sliceAt t (.slice a xs.length cap) lo' hi' none).run P w = .halt (.panic u) w' := by
    intro u w' hq
    simp [Instr.sliceAt, hr, Instr.slice, hq]
  unfold lstCut at h
  split at h
  · rename_i k hn
    obtain ⟨v, rfl, hv⟩ := hhi _ rfl
    have := rep_int hv; subst this
    have := hlo' rfl; subst this
    obtain ⟨b1, b2⟩ := bound_ok (P := P) (k := k) (x := hn) (y := cap) .sliceAcap w
    have pan : hn < 0 ∨ (cap : Int) < hn → Tells P F φ w (Instr.sliceAt t (.slice a xs.length cap) none (some (.int k hn)) none) (.panic .junk) := fun hh => by
      obtain ⟨u, w', hb, hq⟩ := b1 hh
      exact .panic (e2 u w' (by simp [Instr.sliceBounds, hb])) hq
    split at h
    · rename_i hneg
      injection h with h; subst h
      exact pan (.inl hneg)
    · rename_i hneg
      split at h
      · rename_i hle
        injection h with h; subst h
        refine ⟨_, e1 0 hn.toNat cap (by simp [Instr.sliceBounds, b2 (by omega)]), ?_⟩
        have := rep_cut (φ := φ) (full := false) (l := 0) (h := hn.toNat) (cap' := cap - 0) hc ha hs h1 hF hR (Nat.zero_le _) (by omega) (by omega) (by simp) (a' := if cap = 0 then a else a.map (·.add (0 * ei.size))) (fun hlt => by
          have := ha (by rintro rfl; simp at hle; omega)
          subst this
          split <;> simp [add_off])
        simpa using this
      · rename_i hle
        split at h
        · rename_i hfl
          injection h with h; subst h
          have := hf hfl
          exact pan (.inr (by omega))
        · cases h
  · rename_i k ln
    obtain ⟨v, rfl, hv⟩ := hlo _ rfl
    have := rep_int hv; subst this
    have := hhi' rfl; subst this
    obtain ⟨b1, b2⟩ := bound_ok (P := P) (k := k) (x := ln) (y := xs.length) .sliceB w
    split at h
    · rename_i hneg
      injection h with h; subst h
      obtain ⟨u, w', hb, hq⟩ := b1 hneg
      exact .panic (e2 u w' (by simp [Instr.sliceBounds, hb])) hq
    · rename_i hneg
      split at h
      · rename_i hall
        injection h with h; subst h
        refine ⟨_, e1 ln.toNat xs.length cap (by simp [Instr.sliceBounds, b2 hneg]), ?_⟩
        have := rep_cut (φ := φ) (full := full) (l := ln.toNat) (h := xs.length) (cap' := cap - ln.toNat) hc ha hs h1 hF hR (by omega) (Nat.le_refl _) (by omega) (fun e => by have := hf e; omega) (a' := if cap = ln.toNat then a else a.map (·.add (ln.toNat * ei.size))) (fun hlt => by
          have hne : xs ≠ [] := by rintro rfl; simp at hlt
          have := ha hne
          subst this
          have hsz := drop_all hall hs hne
          subst hsz
          rw [if_neg (by omega)]
          simp [add_off])
        simpa using this
      · cases h
  · rename_i k ln k' hn
    obtain ⟨v, rfl, hv⟩ := hlo _ rfl
    have := rep_int hv; subst this
    obtain ⟨v, rfl, hv⟩ := hhi _ rfl
    have := rep_int hv; subst this
    obtain ⟨b1, b2⟩ := bound_ok (P := P) (k := k') (x := hn) (y := cap) .sliceAcap w
    obtain ⟨b3, b4⟩ := bound_ok (P := P) (k := k) (x := ln) (y := hn.toNat) .sliceB w
    have pan : hn < 0 ∨ (cap : Int) < hn → Tells P F φ w (Instr.sliceAt t (.slice a xs.length cap) (some (.int k ln)) (some (.int k' hn)) none) (.panic .junk) := fun hh => by
      obtain ⟨u, w', hb, hq⟩ := b1 hh
      exact .panic (e2 u w' (by simp [Instr.sliceBounds, hb])) hq
    split at h
    · rename_i hneg
      injection h with h; subst h
      exact pan (.inl hneg)
    · rename_i hneg
      split at h
      · rename_i hle
        split at h
        · rename_i hbad
          injection h with h; subst h
          obtain ⟨u, w', hb, hq⟩ := b3 (by omega)
          exact .panic (e2 u w' (by simp [Instr.sliceBounds, b2 (show ¬ (hn < 0 ∨ (cap : Int) < hn) by omega), hb])) hq
        · rename_i hbad
          split at h
          · rename_i hall
            injection h with h; subst h
            refine ⟨_, e1 ln.toNat hn.toNat cap (by simp [Instr.sliceBounds, b2 (show ¬ (hn < 0 ∨ (cap : Int) < hn) by omega), b4 (by omega)]), ?_⟩
            have := rep_cut (φ := φ) (full := false) (l := ln.toNat) (h := hn.toNat) (cap' := cap - ln.toNat) hc ha hs h1 hF hR (by omega) (by omega) (by omega) (by simp) (a' := if cap = ln.toNat then a else a.map (·.add (ln.toNat * ei.size))) (fun hlt => by
              have hne : xs ≠ [] := by rintro rfl; simp at hle; omega
              have := ha hne
              subst this
              have hsz := drop_all hall hs hne
              subst hsz
              rw [if_neg (by omega)]
              simp [add_off])
            exact this
          · cases h
      · rename_i hle
        split at h
        · rename_i hfl
          injection h with h; subst h
          have := hf hfl
          exact pan (.inr (by omega))
        · cases h
  · cases h
end
end Go.GL
