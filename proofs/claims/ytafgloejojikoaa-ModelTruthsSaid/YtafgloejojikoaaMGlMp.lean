/-
  GL, part Mp: maps.
-/
import Derived.Test.YtafgloejojikoaaMGlU
import Derived.RangeFuncRecord
set_option linter.unusedSimpArgs false
set_option linter.unusedVariables false
/-! GL, part Mp: maps. -/
namespace Go.GL

section
variable {P : Program} {T : Tab} {F : FM} {φ : PM} {S : Heap} {w : World}

theorem td_map {t k e : Nat} {ti : TI} (hT : TOk P T) (ht : T t = some ti) (htd : ti.td = .map k e) (w : World) : (underlying t).run P w = .ok (.map k e) w := by
  obtain ⟨D, _, hr, hd⟩ := hT.und_run ht w
  have hD' : D = .map k e := by rw [htd] at hd; cases D <;> simp [tdOf] at hd; rw [hd.1, hd.2]
  subst hD'
  exact hr

theorem bytes_beq (a b : ByteArray) : (a == b) = decide (a = b) := by
  show ByteArray.beq a b = _
  obtain ⟨a⟩ := a
  obtain ⟨b⟩ := b
  simp only [ByteArray.beq, ByteArray.mk.injEq]
  by_cases h : a = b
  · subst h; simp
  · simp [h]

/-- A key, and its type. -/
theorem key_ok {kd : TD} {k : PV} {v : Value} (hk : keyOk kd k = true) (hr : Rep F φ k v) {D : TypeDesc} (hd : tdOf D = kd) :
    (∃ i n, D = .int i ∧ k = .int i n ∧ v = .int i n) ∨ (∃ s, D = .string ∧ k = .str s ∧ v = .string s) ∨ (∃ b, D = .bool ∧ k = .bool b ∧ v = .bool b) := by
  unfold keyOk at hk
  split at hk
  · rename_i i j n
    have : i = j := by simpa using hk
    subst this
    refine .inl ⟨i, n, ?_, rfl, rep_int hr⟩
    cases D <;> simp [tdOf] at hd
    rw [hd]
  · refine .inr (.inl ⟨_, ?_, rfl, rep_str hr⟩)
    cases D <;> first | rfl | simp [tdOf] at hd
  · refine .inr (.inr ⟨_, ?_, rfl, rep_bool hr⟩)
    cases D <;> first | rfl | simp [tdOf] at hd
  · cases hk

theorem run_checkKey {kd : TD} {k : PV} {v : Value} (hk : keyOk kd k = true) (hr : Rep F φ k v) {D : TypeDesc} (hd : tdOf D = kd) {t : TypeId} (hu : (underlying t).run P w = .ok D w) (b : Bool) : (Instr.checkKey b 10000 t v).run P w = .ok () w := by
  unfold Instr.checkKey
  simp only [Sem.run_bind, hu, Result.andThen_ok]
  rcases key_ok hk hr hd with ⟨i, n, rfl, _, rfl⟩ | ⟨s, rfl, _, rfl⟩ | ⟨b, rfl, _, rfl⟩ <;> rfl

/-- Entries of a map, by value. -/
def REs (F : FM) (φ : PM) (kd : TD) (es : List (PV × PV)) (E : List MapEntry) : Prop :=
  E.length = es.length ∧ ∀ (j : Nat) (x y : PV), es[j]? = some (x, y) → ∃ e, E[j]? = some e ∧ RepD F x e.key ∧ Rep F φ y e.val ∧ keyOk kd x = true

theorem same_ok {kd : TD} {k x : PV} {v u : Value} (hk : keyOk kd k = true) (hr : Rep F φ k v) (hx : keyOk kd x = true) (hu : RepD F x u) {D : TypeDesc} (hd : tdOf D = kd) : Instr.sameNow D v u = some (keyEq k x) := by
  have hu' : Rep F φ x u := .of_data hu
  rcases key_ok hk hr hd with ⟨i, n, rfl, rfl, rfl⟩ | ⟨s, rfl, rfl, rfl⟩ | ⟨b, rfl, rfl, rfl⟩
  · rcases key_ok hx hu' hd with ⟨i', n', h1, rfl, rfl⟩ | ⟨s', h1, _, _⟩ | ⟨b', h1, _, _⟩
    · injection h1 with h1; subst h1; simp [Instr.sameNow, keyEq]
    · cases h1
    · cases h1
  · rcases key_ok hx hu' hd with ⟨i', n', h1, _, _⟩ | ⟨s', h1, rfl, rfl⟩ | ⟨b', h1, _, _⟩
    · cases h1
    · simp only [Instr.sameNow, keyEq, bytes_beq]
    · cases h1
  · rcases key_ok hx hu' hd with ⟨i', n', h1, _, _⟩ | ⟨s', h1, _, _⟩ | ⟨b', h1, rfl, rfl⟩
    · cases h1
    · cases h1
    · simp [Instr.sameNow, keyEq]

theorem find_ok {kd : TD} {k : PV} {v : Value} (hk : keyOk kd k = true) (hr : Rep F φ k v) {D : TypeDesc} (hd : tdOf D = kd) : ∀ (es : List (PV × PV)) (E : List MapEntry) (i : Nat), REs F φ kd es E →
    match mfind k es with
    | some y => ∃ (j : Nat) (e : MapEntry), Instr.findNow D v E i = some (some (i + j, e.val)) ∧ E[j]? = some e ∧ RepD F k e.key ∧ Rep F φ y e.val ∧ ∀ z, mput k z es = es.set j (k, z)
    | none => Instr.findNow D v E i = some none ∧ ∀ z, mput k z es = es ++ [(k, z)]
  | [], E, i, h => by
    have : E = [] := List.eq_nil_of_length_eq_zero h.1
    subst this
    exact ⟨rfl, fun z => rfl⟩
  | (x, y) :: es, E, i, h => by
    obtain ⟨hl, hh⟩ := h
    cases E with
    | nil => simp at hl
    | cons e E =>
    obtain ⟨e', he', h1, h2, h3⟩ := hh 0 x y rfl
    simp only [List.getElem?_cons_zero, Option.some.injEq] at he'
    subst he'
    have hs := same_ok hk hr h3 h1 hd
    have hrest : REs F φ kd es E := ⟨by simpa using hl, fun j x y hj => hh (j + 1) x y hj⟩
    simp only [mfind, Instr.findNow, hs]
    cases hkx : keyEq k x with
    | true =>
      simp only [cond_true]
      refine ⟨0, e, rfl, rfl, ?_, h2, ?_⟩
      · have : k = x := by
          rcases key_ok hk hr hd with ⟨i, n, rfl, rfl, rfl⟩ | ⟨s, rfl, rfl, rfl⟩ | ⟨b, rfl, rfl, rfl⟩
          · rcases key_ok h3 (.of_data (φ := φ) h1) hd with ⟨i', n', h4, rfl, _⟩ | ⟨s', h4, _, _⟩ | ⟨b', h4, _, _⟩
            · injection h4 with h4; subst h4; simp [keyEq] at hkx; rw [hkx]
            · cases h4
            · cases h4
          · rcases key_ok h3 (.of_data (φ := φ) h1) hd with ⟨i', n', h4, rfl, _⟩ | ⟨s', h4, rfl, _⟩ | ⟨b', h4, _, _⟩
            · cases h4
            · simp [keyEq] at hkx; rw [hkx]
            · cases h4
          · rcases key_ok h3 (.of_data (φ := φ) h1) hd with ⟨i', n', h4, rfl, _⟩ | ⟨s', h4, rfl, _⟩ | ⟨b', h4, rfl, _⟩
            · cases h4
            · cases h4
            · simp [keyEq] at hkx; rw [hkx]
        rw [this]; exact h1
      · intro z; simp [mput, hkx]
    | false =>
      simp only [cond_false]
      have ih := find_ok hk hr hd es E (i + 1) hrest
      cases hf : mfind k es with
      | some z =>
        rw [hf] at ih
        obtain ⟨j, e2, g1, g2, g3, g4, g5⟩ := ih
        refine ⟨j + 1, e2, by rw [g1]; congr 3; omega, by simpa using g2, g3, g4, ?_⟩
        intro z
        simp only [mput, hkx, cond_false, List.set_cons_succ, g5]
      | none =>
        rw [hf] at ih
        obtain ⟨g1, g5⟩ := ih
        refine ⟨g1, ?_⟩
        intro z
        simp only [mput, hkx, cond_false, List.cons_append, g5]

theorem rep_look (hT : TOk P T) {t : Nat} {ti : TI} (ht : T t = some ti) {o : Option PV} {v : Value} {b ok : Bool} (hv : match o with
    | some p => Rep F φ p v ∧ b = true
    | none => v = zeroV ti.zero ∧ b = false) : Rep F φ (lookR ti.zero ok o) (if ok then .tuple #[v, .bool b] else v) := by
  have two : ∀ {p : PV} {b : Bool}, Rep F φ p v → Rep F φ (.tup [p, .bool b]) (.tuple #[v, .bool b]) := by
    intro p b hp
    refine .tup _ _ rfl fun j c u hc hu => ?_
    match j with
    | 0 => simp at hc hu; subst hc hu; exact hp
    | 1 => simp at hc hu; subst hc hu; exact .bool' b
    | j + 2 => simp at hc
  cases o with
  | some p =>
    obtain ⟨h1, rfl⟩ := hv
    cases ok with
    | true => exact two h1
    | false => exact h1
  | none =>
    obtain ⟨rfl, rfl⟩ := hv
    have hz := rep_zero F φ (hT.ok t ti ht).2.1
    cases ok with
    | true => exact two hz
    | false => exact hz

theorem rep_map {d j : Nat} {v : Value} (h : Rep F φ (.map d j) v) : ∃ b S0, v = .map (some b) ∧ φ d j 0 = some (b, S0, 0) := by
  cases h with
  | data p v hl h => simp [isLeaf] at hl
  | map d k b S0 hp => exact ⟨b, S0, rfl, hp⟩
theorem rep_nilm {v : Value} (h : Rep F φ .nilm v) : v = .map none := by
  cases h with
  | data p v hl h => simp [isLeaf] at hl
  | nilm => rfl

/-- The block of a map. -/
theorem map_block (hI : Inv F φ S w) {d j : Nat} {kd : TD} {es : List (PV × PV)} (hB : atS S d j = some (.mp kd es)) {v : Value} (hr : Rep F φ (.map d j) v) :
    ∃ b E c, v = .map (some b) ∧ φ d j 0 = some (b, 0, 0) ∧ w.heap[b]? = some (.map E c) ∧ REs F (φ.upto d) kd es E.toList ∧ ∀ o, F b o = none := by
  obtain ⟨b, S0, rfl, hp⟩ := rep_map hr
  obtain ⟨b', E, c, h1, h2, h3, h4, h5⟩ := hI.blk d j _ hB
  rw [h1] at hp
  injection hp with hp
  simp only [Prod.mk.injEq] at hp
  obtain ⟨rfl, _, _⟩ := hp
  refine ⟨b', E, c, rfl, h1, h2, ⟨by simpa using h3, fun j x y hj => ?_⟩, h5⟩
  obtain ⟨e, he, hr⟩ := h4 j x y hj
  exact ⟨e, by simpa using he, hr⟩

theorem REs.mono {F' : FM} {φ' : PM} {kd : TD} {es : List (PV × PV)} {E : List MapEntry} (h : REs F φ kd es E) (hF : FM.le F F') (hφ : PM.le φ φ') : REs F' φ' kd es E :=
  ⟨h.1, fun j x y hj => by
    obtain ⟨e, he, h1, h2, h3⟩ := h.2 j x y hj
    exact ⟨e, he, h1.mono hF, h2.mono hF hφ, h3⟩⟩

theorem get_map {r : Nat} {E : Array MapEntry} {c : Nat} (h : w.heap[r]? = some (.map E c)) : (getObj r).run P w = .ok (.map E c) w := by simp [getObj, Sem.run, h]
theorem set_map {r : Nat} {E : Array MapEntry} {c : Nat} (o : Obj) (h : w.heap[r]? = some (.map E c)) : (setObj r o).run P w = .ok () (w.putObj r o) := by simp [setObj, Sem.run, h, World.putObj]

theorem lookup_ok (hT : TOk P T) (hI : Inv F φ S w) {t : Nat} {m k : PV} {vm vk : Value} (hm : Rep F φ m vm) (hk : Rep F φ k vk) {ok : Bool} {r : OpR} (h : lookupP T t m k ok S = some r) : Tells P F φ w (Instr.lookup t vm vk ok) r := by
  unfold lookupP at h
  cases ht : T t with
  | none => rw [ht] at h; cases h
  | some ti =>
  rw [ht] at h
  simp only [] at h
  split at h
  case h_2 => cases h
  rename_i kt et htd
  have hu := td_map hT ht htd w
  cases hkt : T kt with
  | none => rw [hkt] at h; cases h
  | some ki =>
  cases het : T et with
  | none => rw [hkt, het] at h; cases h
  | some ei =>
  rw [hkt, het] at h
  simp only [] at h
  obtain ⟨D, _, hur, hdd⟩ := hT.und_run hkt w
  split at h
  · rename_i d j
    unfold lookM at h
    split at h
    · rename_i kd es hB
      split at h
      · rename_i hh
        obtain ⟨rfl, hko⟩ := hh
        injection h with h
        subst h
        obtain ⟨b, E, c, rfl, h1, h2, h3, _⟩ := map_block hI hB hm
        have h3' := h3.mono (FM.le.refl _) (PM.upto_le φ d)
        have hf := find_ok hko hk hdd es E.toList 0 h3'
        have hget := get_map (P := P) h2
        cases hmf : mfind k es with
        | some y =>
          rw [hmf] at hf
          obtain ⟨j', e, g1, g2, g3, g4, _⟩ := hf
          refine ⟨_, ?_, rep_look hT het (o := some y) (v := e.val) (b := true) ⟨g4, rfl⟩⟩
          simp [Instr.lookup, hu, hget, run_checkKey hko hk hdd hur, Instr.findKey, hur, g1]
        | none =>
          rw [hmf] at hf
          refine ⟨_, ?_, rep_look hT het (o := none) (v := zeroV ei.zero) (b := false) ⟨rfl, rfl⟩⟩
          simp [Instr.lookup, hu, hget, run_checkKey hko hk hdd hur, Instr.findKey, hur, hf.1, hT.run_zero het w]
      · cases h
    · cases h
  · split at h
    · rename_i hko
      injection h with h
      subst h
      have := rep_nilm hm
      subst this
      refine ⟨_, ?_, rep_look hT het (o := none) (v := zeroV ei.zero) (b := false) ⟨rfl, rfl⟩⟩
      simp [Instr.lookup, hu, run_checkKey hko hk hdd hur, Instr.findKey, hur, Instr.findNow, hT.run_zero het w]
    · cases h
  · cases h

theorem put_cell {g b o : Nat} {x : Obj} (h : b ≠ g) : (w.putObj g x).cell? ⟨b, o, none⟩ = w.cell? ⟨b, o, none⟩ := by
  unfold World.cell?
  simp only [World.putObj_heap_other h]

/-- A map is written. -/
theorem Inv.writeMap {S' : Heap} {W : Nat → Prop} (h : Inv F φ S w) {d k : Nat} {kd : TD} {es es' : List (PV × PV)} {b : Nat} {E E' : Array MapEntry} {c c' : Nat}
    (hB0 : atS S d k = some (.mp kd es)) (hb : φ d k 0 = some (b, 0, 0)) (hg : w.heap[b]? = some (.map E c)) (hF0 : ∀ o, F b o = none) (hw : W d) (hlen : S'.length = S.length)
    (hat : ∀ d' k', atS S' d' k' = if d' = d ∧ k' = k then some (.mp kd es') else atS S d' k') (hr : REs F (φ.upto d) kd es' E'.toList) :
    Adv W F φ S w F φ S' (w.putObj b (.map E' c')) ∧ Inv F φ S' (w.putObj b (.map E' c')) := by
  have hb0 : blkAt φ d k (.mp kd es) = some b := by simp [blkAt, hb]
  have hb1 : blkAt φ d k (.mp kd es') = some b := by simp [blkAt, hb]
  have hlt := (Array.getElem?_eq_some_iff.1 hg).1
  have hne : ∀ d' k' B' b', ¬ (d' = d ∧ k' = k) → atS S d' k' = some B' → blkAt φ d' k' B' = some b' → b' ≠ b := fun d' k' B' b' hne h1 h2 e => by
    subst e
    exact hne (h.sep d k _ d' k' B' b' hB0 h1 hb0 h2)
  refine ⟨⟨FM.le.refl _, PM.le.refl _, hlen, rfl, rfl, rfl, by simp, fun i hi hn => ⟨World.putObj_heap_other (fun e => ?_), fun _ => rfl⟩, fun d' k' B' i h1 h2 h3 => ?_⟩, ?_⟩
  · subst e; exact hn d k _ hB0 hb0 hw
  · rw [hat] at h1
    split at h1
    · rename_i hd
      obtain ⟨rfl, rfl⟩ := hd
      injection h1 with h1
      subst h1
      rw [hb1] at h2
      exact ⟨_, hB0, by rw [hb0]; exact h2⟩
    · exact ⟨B', h1, h2⟩
  · refine h.upd (FM.le.refl _) (PM.le.refl _) hat (fun _ _ _ _ e => .inl e) (fun e => by cases e) (fun b' o v e => ?_) (fun d' k' B' b' hd h1 h2 => ⟨World.putObj_heap_other (hne d' k' B' b' hd h1 h2), h.free h1 h2⟩)
      ⟨b, E', c', hb, World.putObj_heap_same hlt, by simpa using hr.1, fun j x y hj => by
        obtain ⟨e, he, h1⟩ := hr.2 j x y hj
        exact ⟨e, by simpa using he, h1⟩, hF0⟩
      (fun b' hb' d' k' B' hd h1 h2 => ?_) (fun _ _ _ e => by cases e)
    · have : b' ≠ b := fun e' => by
        subst e'
        rw [hF0] at e
        cases e
      rw [put_cell this]
      exact h.cell b' o v e
    · rw [hb1] at hb'
      injection hb' with hb'
      subst hb'
      exact hne d' k' B' b hd h1 h2 rfl

theorem same_bits {kd : TD} {k : PV} {v u : Value} (hk : keyOk kd k = true) (hr : Rep F φ k v) (hu : RepD F k u) {D : TypeDesc} (hd : tdOf D = kd) : (Instr.keyThatStays u v).run P w = .ok v w := by
  have hu' : Rep F φ k u := .of_data hu
  unfold Instr.keyThatStays
  have : Instr.sameBits 10000 u v = true := by
    rcases key_ok hk hr hd with ⟨i, n, rfl, rfl, rfl⟩ | ⟨s, rfl, rfl, rfl⟩ | ⟨b, rfl, rfl, rfl⟩
    · rw [rep_int hu']; simp [Instr.sameBits]
    · rw [rep_str hu']; simp [Instr.sameBits, bytes_beq]
    · rw [rep_bool hu']; simp [Instr.sameBits]
  rw [if_pos this]
  rfl

theorem keyOk_data {kd : TD} {k : PV} {v : Value} (hk : keyOk kd k = true) (hr : Rep F φ k v) : RepD F k v := by
  refine hr.data_of ?_
  unfold keyOk at hk
  split at hk <;> first | rfl | cases hk

theorem mapS_ok (hT : TOk P T) (hI : Inv F φ S w) {wl t : Nat} {W : Nat → Prop} (hW : ∀ d, wl ≤ d ∨ d + 1 = S.length → W d) {m k x : PV} {vm vk vx : Value} (hm : Rep F φ m vm) (hk : Rep F φ k vk) (hx : Rep F φ x vx) {S' : Heap} (h : mapS T wl t m k x S = some S') :
    ∃ w', (Instr.mapUpdate t vm vk vx).run P w = .ok () w' ∧ Adv W F φ S w F φ S' w' ∧ Inv F φ S' w' := by
  unfold mapS at h
  cases ht : T t with
  | none => rw [ht] at h; cases h
  | some ti =>
  rw [ht] at h
  simp only [] at h
  split at h
  case h_2 => cases h
  rename_i kt et htd
  have hu := td_map hT ht htd w
  cases hkt : T kt with
  | none => rw [hkt] at h; cases h
  | some ki =>
  rw [hkt] at h
  simp only [] at h
  obtain ⟨D, _, hur, hdd⟩ := hT.und_run hkt w
  split at h
  case h_2 => cases h
  rename_i d j
  split at h
  case isFalse => cases h
  rename_i hh
  obtain ⟨hwl, hwi⟩ := hh
  have hw := hW d hwl
  unfold putM at h
  split at h
  case h_2 => cases h
  rename_i kd es hB
  split at h
  case isFalse => cases h
  rename_i hh
  obtain ⟨rfl, hko⟩ := hh
  injection h with h
  subst h
  obtain ⟨b, E, c, rfl, h1, h2, h3, hF0⟩ := map_block hI hB hm
  have hxu := hx.upto hwi
  have hku : Rep F (φ.upto d) k vk := .of_data (keyOk_data hko hk)
  have hf := find_ok hko hku hdd es E.toList 0 h3
  have hget := get_map (P := P) h2
  cases hmf : mfind k es with
  | some y =>
    rw [hmf] at hf
    obtain ⟨j', e, g1, g2, g3, g4, g5⟩ := hf
    have g2' : E[j']? = some e := by simpa using g2
    have hlt := (Array.getElem?_eq_some_iff.1 g2').1
    have hst := same_bits (P := P) (w := w) hko hku g3 hdd
    have hr : REs F (φ.upto d) ki.td (mput k x es) (E.modify j' fun e => { e with key := vk, val := vx }).toList := by
      rw [g5]
      refine ⟨by simpa using h3.1, fun i x' y' hi => ?_⟩
      rw [Array.getElem?_toList, Array.getElem?_modify]
      rw [List.getElem?_set] at hi
      split at hi
      · rename_i hij
        subst hij
        split at hi
        · injection hi with hi
          simp only [Prod.mk.injEq] at hi
          obtain ⟨rfl, rfl⟩ := hi
          exact ⟨{ e with key := vk, val := vx }, by simp [g2'], keyOk_data hko hk, hxu, hko⟩
        · cases hi
      · rename_i hij
        obtain ⟨e', he', q⟩ := h3.2 i x' y' hi
        exact ⟨e', by rw [if_neg hij]; simpa using he', q⟩
    obtain ⟨a1, a2⟩ := hI.writeMap (S' := setS S d j (.mp ki.td (mput k x es))) (W := W) (c' := c) hB h1 h2 hF0 hw (setS_length _ _ _ _) (atS_setS hB _) hr
    refine ⟨_, ?_, a1, a2⟩
    simp [Instr.mapUpdate, hu, hget, run_checkKey hko hk hdd hur, Instr.findKey, hur, g1, g2', hst, set_map _ h2]
  | none =>
    rw [hmf] at hf
    obtain ⟨g1, g5⟩ := hf
    have hr : REs F (φ.upto d) ki.td (mput k x es) (E.push { key := vk, val := vx, born := c }).toList := by
      rw [g5]
      refine ⟨by simpa using h3.1, fun i x' y' hi => ?_⟩
      rw [Array.toList_push]
      rcases Nat.lt_or_ge i es.length with hlt | hge
      · rw [List.getElem?_append_left hlt] at hi
        obtain ⟨e', he', q⟩ := h3.2 i x' y' hi
        exact ⟨e', by rw [List.getElem?_append_left (by rw [h3.1]; exact hlt)]; exact he', q⟩
      · rw [List.getElem?_append_right hge] at hi
        have hi0 : i - es.length = 0 := by
          cases hz : i - es.length with
          | zero => rfl
          | succ n => rw [hz] at hi; simp at hi
        rw [hi0] at hi
        simp only [List.getElem?_cons_zero, Option.some.injEq, Prod.mk.injEq] at hi
        obtain ⟨rfl, rfl⟩ := hi
        refine ⟨⟨vk, vx, c⟩, ?_, keyOk_data hko hk, hxu, hko⟩
        rw [List.getElem?_append_right (by rw [h3.1]; exact hge), h3.1, hi0]
        rfl
    obtain ⟨a1, a2⟩ := hI.writeMap (S' := setS S d j (.mp ki.td (mput k x es))) (W := W) (c' := c + 1) hB h1 h2 hF0 hw (setS_length _ _ _ _) (atS_setS hB _) hr
    refine ⟨_, ?_, a1, a2⟩
    simp [Instr.mapUpdate, hu, hget, run_checkKey hko hk hdd hur, Instr.findKey, hur, g1, set_map _ h2]

/-- A new map. -/
theorem make_map (hI : Inv F φ S w) (W : Nat → Prop) {t : Nat} {kd : TD} {d k : Nat} {S' : Heap} (hlen : S'.length = S.length) (hf : atS S d k = none ∨ atS S d k = some .gone)
    (hat : ∀ d' k', atS S' d' k' = if d' = d ∧ k' = k then some (.mp kd []) else atS S d' k') :
    ∃ u w' F' φ', (Instr.makeMap t none).run P w = .ok u w' ∧ Adv W F φ S w F' φ' S' w' ∧ Inv F' φ' S' w' ∧ Rep F' φ' (.map d k) u := by
  obtain ⟨h1, h2⟩ := hI.makeO (S' := S') (o := .map #[] 0) (n := 0) (Z := 0) (z := 0) (B := .mp kd []) W hf hlen hat (by simp) (fun φ' e => by simp [blkAt, e]) (fun φ' hle e hF0 =>
    ⟨w.heap.size, #[], 0, e, alloc_new _ _, rfl, fun j x y hj => by simp at hj, hF0⟩) (fun _ _ _ e => by cases e)
  exact ⟨_, _, F, _, by simp [Instr.makeMap], h1, h2, .map _ _ _ _ (PM.put_self _ _ _ _ _)⟩

end
end Go.GL
