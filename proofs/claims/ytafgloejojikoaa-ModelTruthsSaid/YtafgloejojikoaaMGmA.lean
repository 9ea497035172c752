/-
  Walks, mA: constructors, data, functions' names (package model).
-/
import Derived.Test.YtafgloejojikoaaMGl42
import Derived.Test.YtafgloejojikoaaMGl43
import Derived.Test.YtafgloejojikoaaMGl40
set_option linter.unusedSimpArgs false
set_option linter.unusedVariables false
/-! Walks, mA: constructors, data, functions' names (package model). -/
namespace Go.GL.Seat
open Go.Proofs
set_option maxRecDepth 100000
set_option maxHeartbeats 4000000

theorem mconI_call {wl : Nat} (g : FuncId) {D0 K0 : Nat} {α : Type} (enc : α → PV) (p : α → Bool) (f : Bool) (l : List α) (H : Heap) (hH : 0 < H.length) (hb : l.length < 1000000000000) (he : ∀ x ∈ l, ∃ cs, enc x = .agg cs ∧ cs.length = 2 ∧ isDataL cs = true)
    (hc : ∀ x ∈ l, ∀ L1 : List Blk, E.call g wl (enc x :: [.ptr D0 K0 0]) (L1 :: H) = some (.ret (.bool (p x)), L1 :: H)) :
    E.call 130 wl [.lst f (l.map enc), .func (.func g) [] [.ptr D0 K0 0]] H = some (.ret (.int .i64 (match l.findIdx? p with
      | some i => (i : Int)
      | none => -1)), H) := by
  refine (E_call Try.func130 rfl rfl (by kernel_rfl) rfl _ (by exact Nat.le_of_ble_eq_true rfl) H).trans ?_
  obtain ⟨r, hr⟩ : ∃ r, l.findIdx? p = r := ⟨_, rfl⟩
  rw [hr]
  obtain ⟨ml, hml⟩ : ∃ ml, l.map enc = ml := ⟨_, rfl⟩
  have hll : ml.length = l.length := by rw [← hml]; simp
  have hmg : ∀ i, ml[i]? = (l[i]?).map enc := fun i => by rw [← hml, List.getElem?_map]
  rw [hml]
  simp [Try.f130, hll]
  generalize hz : run tab E wl (Code.loop _) _ = z
  obtain ⟨x, s', rfl, hx, hH'⟩ := loop_up (fun c s => E_loop) hz l.length (fun i st => st.env 0 = .lst f ml ∧ st.env 1 = .func (.func g) [] [.ptr D0 K0 0] ∧ st.env 7 = .int .i64 l.length ∧ st.env 8 = .int .i64 i ∧ st.H = H ∧ (∀ j d, j < i → l[j]? = some d → p d = false))
    (fun x st => ((x = .exit 0 ∧ r = none) ∨ (x = .ret ∧ ∃ i : Nat, r = some i ∧ st.env 4 = .int .i64 i)) ∧ st.H = H) (by simp) (by
      rintro i ⟨e, L, H'⟩ hi ⟨h0, h1, h7, h8, hHH, hj⟩
      obtain ⟨t, ht⟩ : ∃ t, l[i]? = some t := ⟨_, List.getElem?_eq_getElem hi⟩
      simp only [] at h0 h1 h7 h8 hHH
      subst hHH
      have hw2 := i64w (n := (i : Int) + 1) (by omega) (by omega)
      obtain ⟨cs, hcs, hcl, hcd⟩ := he t (List.mem_of_getElem? ht)
      have hfz := fun S d ro => frzL_data S d ro cs hcd
      have hsh := fun d L => shutL_data d cs L hcd
      have htk : List.take 2 cs = cs := by rw [← hcl]; exact List.take_length
      have hc1 := hc t (List.mem_of_getElem? ht)
      have hm1 : ml[i]? = some (.agg cs) := by rw [hmg, ht, Option.map_some, hcs]
      rw [hcs] at hc1
      cases hp : p t with
      | true =>
        rw [hp] at hc1
        simp [-getElem?_pos, h0, h1, h7, h8, hm1, hi, hw2, hc1, hcl, htk, hfz, hsh]
        refine ⟨i, ?_, rfl⟩
        rw [← hr, List.findIdx?_eq_some_iff_getElem]
        obtain ⟨hi', hg⟩ := List.getElem?_eq_some_iff.1 ht
        refine ⟨hi', by rw [hg]; exact hp, fun j hji => ?_⟩
        rw [hj j l[j] hji (List.getElem?_eq_getElem (by omega))]
        simp
      | false =>
        rw [hp] at hc1
        simp [-getElem?_pos, h0, h1, h7, h8, hm1, hi, hw2, hc1, hcl, htk, hfz, hsh]
        intro j d hji hd
        rcases Nat.lt_or_ge j i with h | h
        · exact hj j d h hd
        · have : j = i := by omega
          subst this; rw [ht] at hd; injection hd with hd; subst hd; exact hp) (by
      rintro ⟨e, L, H'⟩ ⟨h0, h1, h7, h8, rfl, hj⟩
      simp only [] at h0 h1 h7 h8
      simp [h0, h7, h8]
      rw [← hr, List.findIdx?_eq_none_iff]
      intro d hd
      obtain ⟨j, hjd⟩ := List.getElem?_of_mem hd
      exact hj j d (List.getElem?_eq_some_iff.1 hjd).1 hjd)
  rcases hx with ⟨rfl, hx⟩ | ⟨rfl, i, hx, h4⟩
  · simp [hx, hH', hH]
  · simp [hx, hH', hH, h4]

theorem mdat1I_call {wl : Nat} (g : FuncId) {D0 K0 : Nat} {α : Type} (enc : α → PV) (p : α → Bool) (f : Bool) (l : List α) (H : Heap) (hH : 0 < H.length) (hb : l.length < 1000000000000) (he : ∀ x ∈ l, ∃ cs, enc x = .agg cs ∧ cs.length = 2 ∧ isDataL cs = true)
    (hc : ∀ x ∈ l, ∀ L1 : List Blk, E.call g wl (enc x :: [.ptr D0 K0 0]) (L1 :: H) = some (.ret (.bool (p x)), L1 :: H)) :
    E.call 124 wl [.lst f (l.map enc), .func (.func g) [] [.ptr D0 K0 0]] H = some (.ret (.int .i64 (match l.findIdx? p with
      | some i => (i : Int)
      | none => -1)), H) := by
  refine (E_call Try.func124 rfl rfl (by kernel_rfl) rfl _ (by exact Nat.le_of_ble_eq_true rfl) H).trans ?_
  obtain ⟨r, hr⟩ : ∃ r, l.findIdx? p = r := ⟨_, rfl⟩
  rw [hr]
  obtain ⟨ml, hml⟩ : ∃ ml, l.map enc = ml := ⟨_, rfl⟩
  have hll : ml.length = l.length := by rw [← hml]; simp
  have hmg : ∀ i, ml[i]? = (l[i]?).map enc := fun i => by rw [← hml, List.getElem?_map]
  rw [hml]
  simp [Try.f124, hll]
  generalize hz : run tab E wl (Code.loop _) _ = z
  obtain ⟨x, s', rfl, hx, hH'⟩ := loop_up (fun c s => E_loop) hz l.length (fun i st => st.env 0 = .lst f ml ∧ st.env 1 = .func (.func g) [] [.ptr D0 K0 0] ∧ st.env 7 = .int .i64 l.length ∧ st.env 8 = .int .i64 i ∧ st.H = H ∧ (∀ j d, j < i → l[j]? = some d → p d = false))
    (fun x st => ((x = .exit 0 ∧ r = none) ∨ (x = .ret ∧ ∃ i : Nat, r = some i ∧ st.env 4 = .int .i64 i)) ∧ st.H = H) (by simp) (by
      rintro i ⟨e, L, H'⟩ hi ⟨h0, h1, h7, h8, hHH, hj⟩
      obtain ⟨t, ht⟩ : ∃ t, l[i]? = some t := ⟨_, List.getElem?_eq_getElem hi⟩
      simp only [] at h0 h1 h7 h8 hHH
      subst hHH
      have hw2 := i64w (n := (i : Int) + 1) (by omega) (by omega)
      obtain ⟨cs, hcs, hcl, hcd⟩ := he t (List.mem_of_getElem? ht)
      have hfz := fun S d ro => frzL_data S d ro cs hcd
      have hsh := fun d L => shutL_data d cs L hcd
      have htk : List.take 2 cs = cs := by rw [← hcl]; exact List.take_length
      have hc1 := hc t (List.mem_of_getElem? ht)
      have hm1 : ml[i]? = some (.agg cs) := by rw [hmg, ht, Option.map_some, hcs]
      rw [hcs] at hc1
      cases hp : p t with
      | true =>
        rw [hp] at hc1
        simp [-getElem?_pos, h0, h1, h7, h8, hm1, hi, hw2, hc1, hcl, htk, hfz, hsh]
        refine ⟨i, ?_, rfl⟩
        rw [← hr, List.findIdx?_eq_some_iff_getElem]
        obtain ⟨hi', hg⟩ := List.getElem?_eq_some_iff.1 ht
        refine ⟨hi', by rw [hg]; exact hp, fun j hji => ?_⟩
        rw [hj j l[j] hji (List.getElem?_eq_getElem (by omega))]
        simp
      | false =>
        rw [hp] at hc1
        simp [-getElem?_pos, h0, h1, h7, h8, hm1, hi, hw2, hc1, hcl, htk, hfz, hsh]
        intro j d hji hd
        rcases Nat.lt_or_ge j i with h | h
        · exact hj j d h hd
        · have : j = i := by omega
          subst this; rw [ht] at hd; injection hd with hd; subst hd; exact hp) (by
      rintro ⟨e, L, H'⟩ ⟨h0, h1, h7, h8, rfl, hj⟩
      simp only [] at h0 h1 h7 h8
      simp [h0, h7, h8]
      rw [← hr, List.findIdx?_eq_none_iff]
      intro d hd
      obtain ⟨j, hjd⟩ := List.getElem?_of_mem hd
      exact hj j d (List.getElem?_eq_some_iff.1 hjd).1 hjd)
  rcases hx with ⟨rfl, hx⟩ | ⟨rfl, i, hx, h4⟩
  · simp [hx, hH', hH]
  · simp [hx, hH', hH, h4]

theorem mdat1C_call {wl : Nat} (g : FuncId) {D0 K0 : Nat} {α : Type} (enc : α → PV) (p : α → Bool) (f : Bool) (l : List α) (H : Heap) (hH : 0 < H.length) (hb : l.length < 1000000000000) (he : ∀ x ∈ l, ∃ cs, enc x = .agg cs ∧ cs.length = 2 ∧ isDataL cs = true)
    (hc : ∀ x ∈ l, ∀ L1 L2 : List Blk, E.call g wl (enc x :: [.ptr D0 K0 0]) (L2 :: L1 :: H) = some (.ret (.bool (p x)), L2 :: L1 :: H)) :
    E.call 87 wl [.lst f (l.map enc), .func (.func g) [] [.ptr D0 K0 0]] H = some (.ret (.bool (l.any p)), H) := by
  refine (E_call Try.func87 rfl rfl (by kernel_rfl) rfl _ (by exact Nat.le_of_ble_eq_true rfl) H).trans ?_
  have hi := fun L1 : List Blk => mdat1I_call (wl := wl) g enc p f l (L1 :: H) (by simp) hb he (fun x hx L2 => hc x hx L1 L2)
  have ha := any_findIdx p l
  obtain ⟨a, ha2⟩ : ∃ a, l.any p = a := ⟨_, rfl⟩
  rw [ha2] at ha ⊢
  obtain ⟨ml, hml⟩ : ∃ ml, l.map enc = ml := ⟨_, rfl⟩
  rw [hml] at hi
  rw [hml]
  cases hq : l.findIdx? p with
  | none =>
    rw [hq] at hi ha
    simp only [] at hi ha
    simp at ha
    subst ha
    simp [Try.f87, hi, hH]
  | some k =>
    rw [hq] at hi ha
    simp only [] at hi ha
    have : a = true := by rw [← ha]; simp
    subst this
    simp [Try.f87, hi, hH]

theorem mdat2I_call {wl : Nat} (g : FuncId) {D0 K0 : Nat} {D1 K1 : Nat} {α : Type} (enc : α → PV) (p : α → Bool) (f : Bool) (l : List α) (H : Heap) (hH : 0 < H.length) (hb : l.length < 1000000000000) (he : ∀ x ∈ l, ∃ cs, enc x = .agg cs ∧ cs.length = 2 ∧ isDataL cs = true)
    (hc : ∀ x ∈ l, ∀ L1 : List Blk, E.call g wl (enc x :: [.ptr D0 K0 0, .ptr D1 K1 0]) (L1 :: H) = some (.ret (.bool (p x)), L1 :: H)) :
    E.call 124 wl [.lst f (l.map enc), .func (.func g) [] [.ptr D0 K0 0, .ptr D1 K1 0]] H = some (.ret (.int .i64 (match l.findIdx? p with
      | some i => (i : Int)
      | none => -1)), H) := by
  refine (E_call Try.func124 rfl rfl (by kernel_rfl) rfl _ (by exact Nat.le_of_ble_eq_true rfl) H).trans ?_
  obtain ⟨r, hr⟩ : ∃ r, l.findIdx? p = r := ⟨_, rfl⟩
  rw [hr]
  obtain ⟨ml, hml⟩ : ∃ ml, l.map enc = ml := ⟨_, rfl⟩
  have hll : ml.length = l.length := by rw [← hml]; simp
  have hmg : ∀ i, ml[i]? = (l[i]?).map enc := fun i => by rw [← hml, List.getElem?_map]
  rw [hml]
  simp [Try.f124, hll]
  generalize hz : run tab E wl (Code.loop _) _ = z
  obtain ⟨x, s', rfl, hx, hH'⟩ := loop_up (fun c s => E_loop) hz l.length (fun i st => st.env 0 = .lst f ml ∧ st.env 1 = .func (.func g) [] [.ptr D0 K0 0, .ptr D1 K1 0] ∧ st.env 7 = .int .i64 l.length ∧ st.env 8 = .int .i64 i ∧ st.H = H ∧ (∀ j d, j < i → l[j]? = some d → p d = false))
    (fun x st => ((x = .exit 0 ∧ r = none) ∨ (x = .ret ∧ ∃ i : Nat, r = some i ∧ st.env 4 = .int .i64 i)) ∧ st.H = H) (by simp) (by
      rintro i ⟨e, L, H'⟩ hi ⟨h0, h1, h7, h8, hHH, hj⟩
      obtain ⟨t, ht⟩ : ∃ t, l[i]? = some t := ⟨_, List.getElem?_eq_getElem hi⟩
      simp only [] at h0 h1 h7 h8 hHH
      subst hHH
      have hw2 := i64w (n := (i : Int) + 1) (by omega) (by omega)
      obtain ⟨cs, hcs, hcl, hcd⟩ := he t (List.mem_of_getElem? ht)
      have hfz := fun S d ro => frzL_data S d ro cs hcd
      have hsh := fun d L => shutL_data d cs L hcd
      have htk : List.take 2 cs = cs := by rw [← hcl]; exact List.take_length
      have hc1 := hc t (List.mem_of_getElem? ht)
      have hm1 : ml[i]? = some (.agg cs) := by rw [hmg, ht, Option.map_some, hcs]
      rw [hcs] at hc1
      cases hp : p t with
      | true =>
        rw [hp] at hc1
        simp [-getElem?_pos, h0, h1, h7, h8, hm1, hi, hw2, hc1, hcl, htk, hfz, hsh]
        refine ⟨i, ?_, rfl⟩
        rw [← hr, List.findIdx?_eq_some_iff_getElem]
        obtain ⟨hi', hg⟩ := List.getElem?_eq_some_iff.1 ht
        refine ⟨hi', by rw [hg]; exact hp, fun j hji => ?_⟩
        rw [hj j l[j] hji (List.getElem?_eq_getElem (by omega))]
        simp
      | false =>
        rw [hp] at hc1
        simp [-getElem?_pos, h0, h1, h7, h8, hm1, hi, hw2, hc1, hcl, htk, hfz, hsh]
        intro j d hji hd
        rcases Nat.lt_or_ge j i with h | h
        · exact hj j d h hd
        · have : j = i := by omega
          subst this; rw [ht] at hd; injection hd with hd; subst hd; exact hp) (by
      rintro ⟨e, L, H'⟩ ⟨h0, h1, h7, h8, rfl, hj⟩
      simp only [] at h0 h1 h7 h8
      simp [h0, h7, h8]
      rw [← hr, List.findIdx?_eq_none_iff]
      intro d hd
      obtain ⟨j, hjd⟩ := List.getElem?_of_mem hd
      exact hj j d (List.getElem?_eq_some_iff.1 hjd).1 hjd)
  rcases hx with ⟨rfl, hx⟩ | ⟨rfl, i, hx, h4⟩
  · simp [hx, hH', hH]
  · simp [hx, hH', hH, h4]

theorem mdat2C_call {wl : Nat} (g : FuncId) {D0 K0 : Nat} {D1 K1 : Nat} {α : Type} (enc : α → PV) (p : α → Bool) (f : Bool) (l : List α) (H : Heap) (hH : 0 < H.length) (hb : l.length < 1000000000000) (he : ∀ x ∈ l, ∃ cs, enc x = .agg cs ∧ cs.length = 2 ∧ isDataL cs = true)
    (hc : ∀ x ∈ l, ∀ L1 L2 : List Blk, E.call g wl (enc x :: [.ptr D0 K0 0, .ptr D1 K1 0]) (L2 :: L1 :: H) = some (.ret (.bool (p x)), L2 :: L1 :: H)) :
    E.call 87 wl [.lst f (l.map enc), .func (.func g) [] [.ptr D0 K0 0, .ptr D1 K1 0]] H = some (.ret (.bool (l.any p)), H) := by
  refine (E_call Try.func87 rfl rfl (by kernel_rfl) rfl _ (by exact Nat.le_of_ble_eq_true rfl) H).trans ?_
  have hi := fun L1 : List Blk => mdat2I_call (wl := wl) g enc p f l (L1 :: H) (by simp) hb he (fun x hx L2 => hc x hx L1 L2)
  have ha := any_findIdx p l
  obtain ⟨a, ha2⟩ : ∃ a, l.any p = a := ⟨_, rfl⟩
  rw [ha2] at ha ⊢
  obtain ⟨ml, hml⟩ : ∃ ml, l.map enc = ml := ⟨_, rfl⟩
  rw [hml] at hi
  rw [hml]
  cases hq : l.findIdx? p with
  | none =>
    rw [hq] at hi ha
    simp only [] at hi ha
    simp at ha
    subst ha
    simp [Try.f87, hi, hH]
  | some k =>
    rw [hq] at hi ha
    simp only [] at hi ha
    have : a = true := by rw [← ha]; simp
    subst this
    simp [Try.f87, hi, hH]

theorem mval1I_call {wl : Nat} (g : FuncId) {D0 K0 : Nat} {α : Type} (enc : α → PV) (p : α → Bool) (f : Bool) (l : List α) (H : Heap) (hH : 0 < H.length) (hb : l.length < 1000000000000) (he : ∀ x ∈ l, ∃ cs, enc x = .agg cs ∧ cs.length = 6 ∧ isDataL cs = true)
    (hc : ∀ x ∈ l, ∀ L1 : List Blk, E.call g wl (enc x :: [.ptr D0 K0 0]) (L1 :: H) = some (.ret (.bool (p x)), L1 :: H)) :
    E.call 149 wl [.lst f (l.map enc), .func (.func g) [] [.ptr D0 K0 0]] H = some (.ret (.int .i64 (match l.findIdx? p with
      | some i => (i : Int)
      | none => -1)), H) := by
  refine (E_call Try.func149 rfl rfl (by kernel_rfl) rfl _ (by exact Nat.le_of_ble_eq_true rfl) H).trans ?_
  obtain ⟨r, hr⟩ : ∃ r, l.findIdx? p = r := ⟨_, rfl⟩
  rw [hr]
  obtain ⟨ml, hml⟩ : ∃ ml, l.map enc = ml := ⟨_, rfl⟩
  have hll : ml.length = l.length := by rw [← hml]; simp
  have hmg : ∀ i, ml[i]? = (l[i]?).map enc := fun i => by rw [← hml, List.getElem?_map]
  rw [hml]
  simp [Try.f149, hll]
  generalize hz : run tab E wl (Code.loop _) _ = z
  obtain ⟨x, s', rfl, hx, hH'⟩ := loop_up (fun c s => E_loop) hz l.length (fun i st => st.env 0 = .lst f ml ∧ st.env 1 = .func (.func g) [] [.ptr D0 K0 0] ∧ st.env 7 = .int .i64 l.length ∧ st.env 8 = .int .i64 i ∧ st.H = H ∧ (∀ j d, j < i → l[j]? = some d → p d = false))
    (fun x st => ((x = .exit 0 ∧ r = none) ∨ (x = .ret ∧ ∃ i : Nat, r = some i ∧ st.env 4 = .int .i64 i)) ∧ st.H = H) (by simp) (by
      rintro i ⟨e, L, H'⟩ hi ⟨h0, h1, h7, h8, hHH, hj⟩
      obtain ⟨t, ht⟩ : ∃ t, l[i]? = some t := ⟨_, List.getElem?_eq_getElem hi⟩
      simp only [] at h0 h1 h7 h8 hHH
      subst hHH
      have hw2 := i64w (n := (i : Int) + 1) (by omega) (by omega)
      obtain ⟨cs, hcs, hcl, hcd⟩ := he t (List.mem_of_getElem? ht)
      have hfz := fun S d ro => frzL_data S d ro cs hcd
      have hsh := fun d L => shutL_data d cs L hcd
      have htk : List.take 6 cs = cs := by rw [← hcl]; exact List.take_length
      have hc1 := hc t (List.mem_of_getElem? ht)
      have hm1 : ml[i]? = some (.agg cs) := by rw [hmg, ht, Option.map_some, hcs]
      rw [hcs] at hc1
      cases hp : p t with
      | true =>
        rw [hp] at hc1
        simp [-getElem?_pos, h0, h1, h7, h8, hm1, hi, hw2, hc1, hcl, htk, hfz, hsh]
        refine ⟨i, ?_, rfl⟩
        rw [← hr, List.findIdx?_eq_some_iff_getElem]
        obtain ⟨hi', hg⟩ := List.getElem?_eq_some_iff.1 ht
        refine ⟨hi', by rw [hg]; exact hp, fun j hji => ?_⟩
        rw [hj j l[j] hji (List.getElem?_eq_getElem (by omega))]
        simp
      | false =>
        rw [hp] at hc1
        simp [-getElem?_pos, h0, h1, h7, h8, hm1, hi, hw2, hc1, hcl, htk, hfz, hsh]
        intro j d hji hd
        rcases Nat.lt_or_ge j i with h | h
        · exact hj j d h hd
        · have : j = i := by omega
          subst this; rw [ht] at hd; injection hd with hd; subst hd; exact hp) (by
      rintro ⟨e, L, H'⟩ ⟨h0, h1, h7, h8, rfl, hj⟩
      simp only [] at h0 h1 h7 h8
      simp [h0, h7, h8]
      rw [← hr, List.findIdx?_eq_none_iff]
      intro d hd
      obtain ⟨j, hjd⟩ := List.getElem?_of_mem hd
      exact hj j d (List.getElem?_eq_some_iff.1 hjd).1 hjd)
  rcases hx with ⟨rfl, hx⟩ | ⟨rfl, i, hx, h4⟩
  · simp [hx, hH', hH]
  · simp [hx, hH', hH, h4]

theorem mval1C_call {wl : Nat} (g : FuncId) {D0 K0 : Nat} {α : Type} (enc : α → PV) (p : α → Bool) (f : Bool) (l : List α) (H : Heap) (hH : 0 < H.length) (hb : l.length < 1000000000000) (he : ∀ x ∈ l, ∃ cs, enc x = .agg cs ∧ cs.length = 6 ∧ isDataL cs = true)
    (hc : ∀ x ∈ l, ∀ L1 L2 : List Blk, E.call g wl (enc x :: [.ptr D0 K0 0]) (L2 :: L1 :: H) = some (.ret (.bool (p x)), L2 :: L1 :: H)) :
    E.call 127 wl [.lst f (l.map enc), .func (.func g) [] [.ptr D0 K0 0]] H = some (.ret (.bool (l.any p)), H) := by
  refine (E_call Try.func127 rfl rfl (by kernel_rfl) rfl _ (by exact Nat.le_of_ble_eq_true rfl) H).trans ?_
  have hi := fun L1 : List Blk => mval1I_call (wl := wl) g enc p f l (L1 :: H) (by simp) hb he (fun x hx L2 => hc x hx L1 L2)
  have ha := any_findIdx p l
  obtain ⟨a, ha2⟩ : ∃ a, l.any p = a := ⟨_, rfl⟩
  rw [ha2] at ha ⊢
  obtain ⟨ml, hml⟩ : ∃ ml, l.map enc = ml := ⟨_, rfl⟩
  rw [hml] at hi
  rw [hml]
  cases hq : l.findIdx? p with
  | none =>
    rw [hq] at hi ha
    simp only [] at hi ha
    simp at ha
    subst ha
    simp [Try.f127, hi, hH]
  | some k =>
    rw [hq] at hi ha
    simp only [] at hi ha
    have : a = true := by rw [← ha]; simp
    subst this
    simp [Try.f127, hi, hH]

theorem conC_call {wl : Nat} (c : Cn) (nm : ByteArray) (D K : Nat) (H : Heap) (hH : 0 < H.length) (hs : atS H D K = some (.box [.str nm])) (hD : D < H.length) :
    E.call 131 wl [c.enc, .ptr D K 0] H = some (.ret (.bool (decide (c.nm = nm))), H) := by
  refine (E_call Try.func131 rfl rfl (by kernel_rfl) rfl _ (by exact Nat.le_of_ble_eq_true rfl) H).trans ?_
  simp [Try.f131, Cn.enc, hs, Nat.ne_of_lt hD, hH]

def placeP (d c : Nat) : PV := .agg [.int .i64 d, .int .i64 c]
def conR : Option (Nat × Nat) → List PV
  | some (d, c) => [placeP d c, .bool true]
  | none => [placeP 0 0, .bool false]

theorem conAt_drop {ds : List Dt} {i : Nat} {x : Dt} (nm : ByteArray) (h : ds[i]? = some x) : conAt (ds.drop i) nm i = match x.cs.findIdx? fun c => decide (c.nm = nm) with
    | some k => some (i, k)
    | none => conAt (ds.drop (i + 1)) nm (i + 1) := by
  obtain ⟨hi, rfl⟩ := List.getElem?_eq_some_iff.1 h
  rw [List.drop_eq_getElem_cons hi]
  rfl

theorem con_call {wl : Nat} (fd : Bool) (ds : List Dt) (nm : ByteArray) (hds : okD ds) (H : Heap) (hH : 0 < H.length) :
    E.call 96 wl [.lst fd (encD ds), .str nm] H = some (.ret (.tup (conR (conAt ds nm 0))), H) := by
  refine (E_call Try.func96 rfl rfl (by kernel_rfl) rfl _ (by exact Nat.le_of_ble_eq_true rfl) H).trans ?_
  obtain ⟨r, hr⟩ : ∃ r, conAt ds nm 0 = r := ⟨_, rfl⟩
  rw [hr]
  have hdl := hds.1
  simp [Try.f96]
  generalize hz : run tab E wl (Code.loop _) _ = z
  obtain ⟨x, s', rfl, hx, hH'⟩ := loop_up (fun c s => E_loop) hz ds.length (fun i st => ∃ b0 b1, st.env 3 = .ptr H.length 0 0 ∧ st.env 4 = .ptr H.length 1 0 ∧ st.env 9 = .lst fd (encD ds) ∧ st.env 10 = .int .i64 ds.length ∧ st.env 11 = .int .i64 i ∧ st.H = H ∧ st.L[0]? = some (.box [.str nm]) ∧ st.L[1]? = some (.box [b0, b1]) ∧ conAt (ds.drop i) nm i = r)
    (fun x st => (∃ b0 b1, st.env 4 = .ptr H.length 1 0 ∧ st.L[1]? = some (.box [b0, b1]) ∧ ((x = .exit 0 ∧ r = none) ∨ (x = .ret ∧ ∃ d c, r = some (d, c) ∧ b0 = .int .i64 d ∧ b1 = .int .i64 c ∧ st.env 5 = .bool true))) ∧ st.H = H)
    ⟨_, _, by simp, by simp, by simp, by simp, by simp, by simp, by simp, by simp; exact ⟨rfl, rfl⟩, by simpa using hr⟩ (by
      rintro i ⟨e, L, H'⟩ hi ⟨b0, b1, h3, h4, h9, h10, h11, hHH, hL0, hL1, hc⟩
      simp only [] at h3 h4 h9 h10 h11 hHH hL0 hL1
      subst hHH
      obtain ⟨t, ht⟩ : ∃ t, ds[i]? = some t := ⟨_, List.getElem?_eq_getElem hi⟩
      have hw2 := i64w (n := (i : Int) + 1) (by omega) (by omega)
      have hcl := (hds.2 t (List.mem_of_getElem? ht)).1
      have hix := fun (L1 : List Blk) (hL : L1[0]? = some (.box [.str nm])) => mconI_call (wl := wl) 131 (D0 := H'.length) (K0 := 0) Cn.enc (fun c => decide (c.nm = nm)) t.cf t.cs (L1 :: H') (by simp) hcl (fun x _ => ⟨_, rfl, rfl, rfl⟩)
        (fun x _ L2 => conC_call x nm H'.length 0 (L2 :: L1 :: H') (by simp) (by rw [atS_cons (by simp), atS_top]; exact hL) (by simp; omega))
      rw [conAt_drop nm ht] at hc
      obtain ⟨q, hq⟩ : ∃ q, t.cs.findIdx? (fun c => decide (c.nm = nm)) = q := ⟨_, rfl⟩
      rw [hq] at hix hc
      have hix2 := fun (B : Blk) => hix (L ++ [B]) (app_old hL0)
      obtain ⟨tn, tf, tc⟩ := t
      simp only [] at hix2 hq hc
      have hec : tc.map Cn.enc = encC tc := rfl
      rw [hec] at hix2
      cases q with
      | none =>
        simp only [] at hix2 hc
        simp [-getElem?_pos, h3, h4, h9, h10, h11, ht, hi, hw2, Dt.enc, hix2, hL0, hL1, app_old hL0, app_old hL1, hc]
      | some k =>
        simp only [] at hix2 hc
        subst hc
        simp [-getElem?_pos, h3, h4, h9, h10, h11, ht, hi, hw2, Dt.enc, hix2, hL0, hL1, app_old hL0, app_old hL1]
        exact ⟨_, _, List.getElem?_set_self (by have := (List.getElem?_eq_some_iff.1 hL1).1; simp; omega), i, k, ⟨rfl, rfl⟩, rfl, rfl⟩) (by
      rintro ⟨e, L, H'⟩ ⟨b0, b1, h3, h4, h9, h10, h11, hHH, hL0, hL1, hc⟩
      simp only [] at h3 h4 h9 h10 h11 hHH hL0 hL1
      rw [List.drop_length] at hc
      have hc' : r = none := hc.symm
      simp [-getElem?_pos, h3, h4, h9, h10, h11, hHH, hL0, hL1, hc'])
  obtain ⟨b0, b1, h4, hL1, hx⟩ := hx
  have q1 : ∀ b, (s'.L.set 1 b)[1]? = some b := fun b => List.getElem?_set_self (List.getElem?_eq_some_iff.1 hL1).1
  rcases hx with ⟨rfl, rfl⟩ | ⟨rfl, d, c, rfl, rfl, rfl, h5⟩
  · simp [-getElem?_pos, h4, hL1, hH', hH, conR, placeP, q1]
  · simp [-getElem?_pos, h4, h5, hL1, hH', hH, conR, placeP]

theorem fields_call {wl : Nat} {fd : Bool} {ds : List Dt} {d c : Nat} {D : Dt} {C : Cn} (hD : ds[d]? = some D) (hC : D.cs[c]? = some C) (H : Heap) (hH : 0 < H.length) :
    E.call 99 wl [.lst fd (encD ds), placeP d c] H = some (.ret (.lst C.ff (encF C.fs)), H) := by
  refine (E_call Try.func99 rfl rfl (by kernel_rfl) rfl _ (by exact Nat.le_of_ble_eq_true rfl) H).trans ?_
  have h1 := (List.getElem?_eq_some_iff.1 hD).1
  have h2 := (List.getElem?_eq_some_iff.1 hC).1
  obtain ⟨dn, df, dc⟩ := D
  obtain ⟨cn, cf, cfs⟩ := C
  simp only [] at hC h2
  simp [-getElem?_pos, Try.f99, placeP, hD, hC, Dt.enc, Cn.enc, hH, h1, h2]

theorem mdataC_call {wl : Nat} (d : Dt) (sort : ByteArray) (D K : Nat) (H : Heap) (hH : 0 < H.length) (hs : atS H D K = some (.box [.str sort])) (hD : D < H.length) :
    E.call 148 wl [d.enc, .ptr D K 0] H = some (.ret (.bool (decide (d.nm = sort))), H) := by
  refine (E_call Try.func148 rfl rfl (by kernel_rfl) rfl _ (by exact Nat.le_of_ble_eq_true rfl) H).trans ?_
  simp [Try.f148, Dt.enc, hs, Nat.ne_of_lt hD, hH]

theorem mdata_call {wl : Nat} (fd : Bool) (ds : List Dt) (sort : ByteArray) (hds : ds.length < 1000000000000) (H : Heap) (hH : 0 < H.length) :
    E.call 123 wl [.lst fd (encD ds), .str sort] H = some (.ret (.bool (isD ds sort)), H) := by
  refine (E_call Try.func123 rfl rfl (by kernel_rfl) rfl _ (by exact Nat.le_of_ble_eq_true rfl) H).trans ?_
  have hc := fun L1 : List Blk => mdat1C_call (wl := wl) 148 (D0 := H.length) (K0 := 0) Dt.enc (fun d => decide (d.nm = sort)) fd ds ((.box [.str sort] :: L1) :: H) (by simp) hds (fun x _ => ⟨_, rfl, rfl, rfl⟩)
    (fun x _ L2 L3 => mdataC_call x sort H.length 0 (L3 :: L2 :: (.box [.str sort] :: L1) :: H) (by simp) (by rw [atS_cons (by simp; omega), atS_cons (by simp), atS_top]; rfl) (by simp; omega))
  have he : ds.map Dt.enc = encD ds := rfl
  rw [he] at hc
  by_cases h1 : sort = bInt
  · simp [Try.f123, h1, hH, isD]
  · by_cases h2 : sort = bBool
    · simp [Try.f123, h2, hH, isD]
    · simp [Try.f123, h1, h2, hH, hc, isD]

theorem nothing_call {wl : Nat} (H : Heap) (hH : 0 < H.length) : E.call 100 wl [] H = some (.ret (zeroVl 3).enc, H) := by
  refine (E_call Try.func100 rfl rfl (by kernel_rfl) rfl _ (by exact Nat.le_of_ble_eq_true rfl) H).trans ?_
  simp [Try.f100, hH, zeroVl, Vl.enc, dig, encVs]

theorem mtruth_call {wl : Nat} (b : Bool) (H : Heap) (hH : 0 < H.length) : E.call 92 wl [.bool b] H = some (.ret (truthV b).enc, H) := by
  refine (E_call Try.func92 rfl rfl (by kernel_rfl) rfl _ (by exact Nat.le_of_ble_eq_true rfl) H).trans ?_
  simp [Try.f92, hH, truthV, Vl.enc, dig, encVs]

theorem zero_s_call {wl : Nat} (s : ByteArray) (H : Heap) (hH : 0 < H.length) : E.call 98 wl [.str s] H = some (.ret (if s = bInt then zeroVl 1 else if s = bBool then zeroVl 2 else zeroVl 0).enc, H) := by
  refine (E_call Try.func98 rfl rfl (by kernel_rfl) rfl _ (by exact Nat.le_of_ble_eq_true rfl) H).trans ?_
  by_cases h1 : s = bInt
  · simp [Try.f98, hH, h1, zeroVl, Vl.enc, dig, encVs]
  · by_cases h2 : s = bBool
    · simp [Try.f98, hH, h2, zeroVl, Vl.enc, dig, encVs]
    · simp [Try.f98, hH, h1, h2, zeroVl, Vl.enc, dig, encVs]

theorem mnone_call {wl : Nat} (v : Vl) (H : Heap) (hH : 0 < H.length) : E.call 122 wl [v.enc] H = some (.ret (.bool (noneV v)), H) := by
  refine (E_call Try.func122 rfl rfl (by kernel_rfl) rfl _ (by exact Nat.le_of_ble_eq_true rfl) H).trans ?_
  obtain ⟨k, ng, df, ds, tr, nm, ff, fs⟩ := v
  have c : ∀ a : Nat, k ≠ a → ((k : Int) == (a : Int)) = false := fun a h => by rw [beq_eq_false_iff_ne]; omega
  have hd : ds ≠ [] → ((ds.length : Int) == 0) = false := fun h => by rw [beq_eq_false_iff_ne]; have := List.length_pos_iff.2 h; omega
  have hf : fs ≠ [] → ((fs.length : Int) == 0) = false := fun h => by rw [beq_eq_false_iff_ne]; have := List.length_pos_iff.2 h; omega
  have rest : ∀ (p : Bool), (k = 1 → p = true) → True := fun _ _ => trivial
  by_cases k1 : k = 1
  · subst k1
    cases tr with
    | true => simp [Try.f122, hH, noneV, Vl.enc]
    | false =>
      by_cases hn : nm = bNil
      · by_cases hfs : fs = []
        · simp [Try.f122, hH, noneV, Vl.enc, hn, hfs, encVs]
        · simp [Try.f122, hH, noneV, Vl.enc, hn, hfs, hf hfs]
      · simp [Try.f122, hH, noneV, Vl.enc, hn]
  have c1 := c 1 k1
  have p1 : ¬ (k : Int) = 1 := by omega
  by_cases hds : ds = []
  case neg => simp [Try.f122, hH, noneV, Vl.enc, k1, p1, hds, hd hds]
  subst hds
  cases ng with
  | true => simp [Try.f122, hH, noneV, Vl.enc, k1, p1, dig]
  | false =>
  by_cases k2 : k = 2
  · subst k2
    by_cases hn : nm = bNil
    · by_cases hfs : fs = []
      · simp [Try.f122, hH, noneV, Vl.enc, hn, hfs, dig, encVs]
      · simp [Try.f122, hH, noneV, Vl.enc, hn, hfs, hf hfs, dig]
    · simp [Try.f122, hH, noneV, Vl.enc, hn, dig]
  have c2 := c 2 k2
  have p2 : ¬ (k : Int) = 2 := by omega
  cases tr with
  | true => simp [Try.f122, hH, noneV, Vl.enc, k1, k2, p1, p2, dig]
  | false =>
  by_cases k3 : k = 3
  · subst k3
    simp [Try.f122, hH, noneV, Vl.enc, dig]
  have c3 := c 3 k3
  have p3 : ¬ (k : Int) = 3 := by omega
  by_cases hn : nm = bNil
  · by_cases hfs : fs = []
    · simp [Try.f122, hH, noneV, Vl.enc, k1, k2, k3, p1, p2, p3, hn, hfs, dig, encVs]
    · simp [Try.f122, hH, noneV, Vl.enc, k1, k2, k3, p1, p2, p3, hn, hfs, hf hfs, dig]
  · simp [Try.f122, hH, noneV, Vl.enc, k1, k2, k3, p1, p2, p3, hn, dig]

/-- The last place of a byte. -/
def LastAt (b : ByteArray) (c : Nat) (r : Int) : Prop := (r = -1 ∧ ∀ i, i < b.size → byteAt b i ≠ c) ∨ ∃ i : Nat, r = i ∧ i < b.size ∧ byteAt b i = c ∧ ∀ j, i < j → j < b.size → byteAt b j ≠ c

theorem LastAt.uniq {b : ByteArray} {c : Nat} {r s : Int} (h : LastAt b c r) (g : LastAt b c s) : r = s := by
  rcases h with ⟨rfl, h⟩ | ⟨i, rfl, h1, h2, h3⟩ <;> rcases g with ⟨rfl, g⟩ | ⟨j, rfl, g1, g2, g3⟩
  · rfl
  · exact absurd g2 (h j g1)
  · exact absurd h2 (g i h1)
  · rcases Nat.lt_trichotomy i j with hij | rfl | hij
    · exact absurd g2 (h3 j hij g1)
    · rfl
    · exact absurd h2 (g3 i hij h1)

theorem lastIdx_call {wl : Nat} (b : ByteArray) (c : Nat) (hb : b.size < 1000000000000) (H : Heap) (hH : 0 < H.length) :
    ∃ r, E.call 132 wl [.str b, .int .u8 c] H = some (.ret (.int .i64 r), H) ∧ LastAt b c r := by
  have inner : ∀ (H : Heap), 0 < H.length → ∃ r, E.call 151 wl [.str b, .int .u8 c] H = some (.ret (.int .i64 r), H) ∧ LastAt b c r := by
    intro H hH
    have hcall := E_call (wl := wl) Try.func151 rfl rfl (by kernel_rfl) rfl [.str b, .int .u8 c] (by exact Nat.le_of_ble_eq_true rfl) H
    obtain ⟨o, ho⟩ : ∃ o, E.call 151 wl [.str b, .int .u8 c] H = o := ⟨_, rfl⟩
    rw [ho]
    rw [hcall] at ho
    have hw1 := i64w (n := (b.size : Int) - 1) (by omega) (by omega)
    simp [Try.f151, hw1] at ho
    generalize hz : run tab E wl (Code.loop _) _ = z at ho
    obtain ⟨x, s', rfl, hx, hHH⟩ := loop_up (fun c s => E_loop) hz b.size (fun i st => st.env 0 = .str b ∧ st.env 1 = .int .u8 c ∧ st.env 5 = .int .i64 ((b.size : Int) - 1 - i) ∧ st.H = H ∧ ∀ j, b.size ≤ j + i → j < b.size → byteAt b j ≠ c)
      (fun x st => ((x = .exit 0 ∧ ∀ j, j < b.size → byteAt b j ≠ c) ∨ (x = .ret ∧ ∃ i : Nat, st.env 4 = .int .i64 i ∧ i < b.size ∧ byteAt b i = c ∧ ∀ j, i < j → j < b.size → byteAt b j ≠ c)) ∧ st.H = H)
      ⟨by simp, by simp, by simp, by simp, fun j h1 h2 => by omega⟩ (by
        rintro i ⟨e, L, H'⟩ hi ⟨h0, h1, h5, hHH, hj⟩
        simp only [] at h0 h1 h5 hHH
        subst hHH
        obtain ⟨k, hk⟩ : ∃ k, b.size - 1 - i = k := ⟨_, rfl⟩
        have hk2 : (b.size : Int) - 1 - i = (k : Int) := by omega
        rw [hk2] at h5
        have hkb : k < b.size := by omega
        have hk3 : (b.size : Int) - 1 - ((i : Int) + 1) = (k : Int) - 1 := by omega
        have hwk := i64w (n := (k : Int) - 1) (by omega) (by omega)
        have hk4 : b.size - 1 - (i + 1) = k - 1 := by omega
        by_cases hbc : byteAt b k = c
        · simp [-getElem?_pos, h0, h1, h5, hkb, hbc]
          refine ⟨k, rfl, hkb, hbc, fun j h1 h2 => hj j (by omega) h2⟩
        · have hbc2 : ¬ (byteAt b k : Int) = c := by omega
          simp [-getElem?_pos, h0, h1, h5, hkb, hbc, hbc2, hwk, hk3]
          intro j h1 h2
          rcases Nat.lt_or_ge k j with h | h
          · exact hj j (by omega) h2
          · have : j = k := by omega
            subst this; exact hbc) (by
        rintro ⟨e, L, H'⟩ ⟨h0, h1, h5, hHH, hj⟩
        simp only [] at h0 h1 h5 hHH
        have hm : (b.size : Int) - 1 - b.size = -1 := by omega
        rw [hm] at h5
        simp [-getElem?_pos, h0, h1, h5, hHH]
        intro j hjb
        exact hj j (by omega) hjb)
    rcases hx with ⟨rfl, hx⟩ | ⟨rfl, i, h4, hx⟩
    · simp [hHH, hH] at ho
      exact ⟨-1, ho.symm, .inl ⟨rfl, hx⟩⟩
    · simp [hHH, hH, h4] at ho
      exact ⟨i, ho.symm, .inr ⟨i, rfl, hx⟩⟩
  have hcall := E_call (wl := wl) Try.func132 rfl rfl (by kernel_rfl) rfl [.str b, .int .u8 c] (by exact Nat.le_of_ble_eq_true rfl) H
  rw [hcall]
  obtain ⟨r, h1, h2⟩ := inner ([] :: H) (by simp)
  have hall : ∀ L1 : List Blk, E.call 151 wl [.str b, .int .u8 c] (L1 :: H) = some (.ret (.int .i64 r), L1 :: H) := by
    intro L1
    obtain ⟨r', h3, h4⟩ := inner (L1 :: H) (by simp)
    rw [h3, LastAt.uniq h4 h2]
  refine ⟨r, ?_, h2⟩
  simp [Try.f132, hall, hH]

/-- A function C.i, by its name. -/
def fieldR : Option (Nat × Nat × Nat) → List PV
  | some (d, c, i) => [placeP d c, .int .i64 i, .bool true]
  | none => []

/-- What 'field' tells: the place, i, whether there is such a function. -/
def FieldR (ds : List Dt) (nm : ByteArray) (v : PV) : Prop :=
  ∃ (d c i : Nat), v = .tup [placeP d c, .int .i64 i, .bool (fieldS ds nm).isSome] ∧ ∀ x, fieldS ds nm = some x → x = (d, c, i)

theorem field_call {wl : Nat} (fd : Bool) (ds : List Dt) (nm : ByteArray) (hds : okD ds) (hn : nm.size < 1000000000000) (H : Heap) (hH : 0 < H.length) :
    ∃ v, E.call 97 wl [.lst fd (encD ds), .str nm] H = some (.ret v, H) ∧ FieldR ds nm v := by
  have hcall := E_call (wl := wl) Try.func97 rfl rfl (by kernel_rfl) rfl [.lst fd (encD ds), .str nm] (by exact Nat.le_of_ble_eq_true rfl) H
  rw [hcall]
  obtain ⟨r, _, hr⟩ := lastIdx_call (wl := wl) nm 46 hn ([] :: H) (by simp)
  have hl : ∀ L1 : List Blk, E.call 132 wl [.str nm, .int .u8 46] (L1 :: H) = some (.ret (.int .i64 r), L1 :: H) := by
    intro L1
    obtain ⟨r', h3, h4⟩ := lastIdx_call (wl := wl) nm 46 hn (L1 :: H) (by simp)
    have := LastAt.uniq h4 hr
    subst this
    exact h3
  have none_ : ∀ v, fieldS ds nm = none → v = .tup [placeP 0 0, .int .i64 0, .bool false] → FieldR ds nm v := by
    rintro v h rfl
    exact ⟨0, 0, 0, by rw [h]; rfl, fun x hx => by rw [h] at hx; cases hx⟩
  have nodot : dotted nm = false → fieldS ds nm = none := fun h => by unfold fieldS; rw [if_pos h]
  rcases hr with ⟨rfl, hno⟩ | ⟨k, rfl, hkb, hk46, hkl⟩
  · have hd : dotted nm = false := by
      cases h : dotted nm with
      | false => rfl
      | true =>
        simp only [dotted, Bool.and_eq_true, decide_eq_true_eq] at h
        exact absurd h.1.1.2 (hno _ (by omega))
    refine ⟨_, ?_, none_ _ (nodot hd) rfl⟩
    simp [Try.f97, hl, hH, placeP]
  have hw2 := i64w (n := (k : Int) + 2) (by omega) (by omega)
  have hw1 := i64w (n := (k : Int) + 1) (by omega) (by omega)
  have hk0 : ¬ (k : Int) < 0 := by omega
  by_cases hsz : k + 2 = nm.size
  case neg =>
    have hd : dotted nm = false := by
      cases h : dotted nm with
      | false => rfl
      | true =>
        simp only [dotted, Bool.and_eq_true, decide_eq_true_eq] at h
        obtain ⟨⟨⟨h1, h2⟩, h3⟩, h4⟩ := h
        rcases Nat.lt_or_ge k (nm.size - 2) with hlt | hge
        · exact absurd h2 (hkl _ hlt (by omega))
        · have : k = nm.size - 1 := by omega
          subst this
          omega
    have hsz2 : ¬ (k : Int) + 2 = nm.size := by omega
    refine ⟨_, ?_, none_ _ (nodot hd) rfl⟩
    simp [Try.f97, hl, hH, placeP, hw2, hk0, hsz2]
  have hsz2 : (k : Int) + 2 = nm.size := by omega
  have hk1b : k + 1 < nm.size := by omega
  have hk22 : (k : Int) ≤ (k : Int) + 2 := by omega
  have e2 : ((k : Int) + 1).toNat = k + 1 := by omega
  have e3 : (0 : Int) ≤ (k : Int) + 1 := by omega
  have hm2 : nm.size - 2 = k := by omega
  have hm1 : nm.size - 1 = k + 1 := by omega
  rcases Decidable.em (byteAt nm (k + 1) < 48) with b1 | b1
  · have hd : dotted nm = false := by simp [dotted, hm1]; omega
    have b1' : (byteAt nm (k + 1) : Int) < 48 := by omega
    refine ⟨_, ?_, none_ _ (nodot hd) rfl⟩
    simp [Try.f97, hl, hH, placeP, hw2, hw1, hk0, ← hsz2, hk1b, e2, e3, b1']
  rcases Decidable.em (57 < byteAt nm (k + 1)) with b2 | b2
  · have hd : dotted nm = false := by simp [dotted, hm1]; omega
    have b1' : ¬ (byteAt nm (k + 1) : Int) < 48 := by omega
    have b2' : (57 : Int) < byteAt nm (k + 1) := by omega
    refine ⟨_, ?_, none_ _ (nodot hd) rfl⟩
    simp [Try.f97, hl, hH, placeP, hw2, hw1, hk0, ← hsz2, hk1b, e2, e3, b1', b2']
  have hd : dotted nm = true := by simp [dotted, hm1, hm2, hk46]; omega
  have b1' : ¬ (byteAt nm (k + 1) : Int) < 48 := by omega
  have b2' : ¬ (57 : Int) < byteAt nm (k + 1) := by omega
  obtain ⟨q, hq⟩ : ∃ q, byteAt nm (k + 1) - 48 = q := ⟨_, rfl⟩
  have hw8 : IntKind.u8.wrap ((byteAt nm (k + 1) : Int) - 48) = (q : Int) := by rw [IntWalk.u8_in _ ⟨by omega, by omega⟩]; omega
  have hwq := i64w (n := (q : Int)) (by omega) (by omega)
  have hc := fun (L1 : List Blk) => con_call (wl := wl) fd ds (nm.extract 0 k) hds (L1 :: H) (by simp)
  have hf : fieldS ds nm = match conAt ds (nm.extract 0 k) 0 with
    | none => none
    | some (d, c) => match (ds[d]?).bind fun D => D.cs[c]? with
      | some C => if q < C.fs.length then some (d, c, q) else none
      | none => none := by
    unfold fieldS
    rw [if_neg (by rw [hd]; simp), hm2, hm1, hq]
    rfl
  cases hcon : conAt ds (nm.extract 0 k) 0 with
  | none =>
    rw [hcon] at hc hf
    simp only [] at hf
    refine ⟨.tup [placeP 0 0, .int .i64 q, .bool false], ?_, 0, 0, q, by rw [hf]; rfl, fun x hx => by rw [hf] at hx; cases hx⟩
    simp only [conR, placeP] at hc
    simp [Try.f97, hl, hH, placeP, hw2, hw1, hk0, ← hsz2, hk1b, e2, e3, b1', b2', hc, hw8, hwq, hk22]
  | some x =>
    obtain ⟨d, c⟩ := x
    rw [hcon] at hc hf
    obtain ⟨D, C, _, hD, hC, _, _⟩ := conAt_get _ _ _ _ _ hcon
    simp only [Nat.sub_zero] at hD
    simp only [hD, Option.bind_some, hC] at hf
    have hfl := fun (w2 : Nat) (L1 : List Blk) => fields_call (wl := w2) (fd := fd) hD hC (L1 :: H) (by simp)
    simp only [conR, placeP] at hc hfl
    by_cases hqc : q < C.fs.length
    · rw [if_pos hqc] at hf
      refine ⟨.tup [placeP d c, .int .i64 q, .bool true], ?_, d, c, q, by rw [hf]; rfl, fun x hx => by rw [hf] at hx; injection hx with hx; exact hx.symm⟩
      simp [Try.f97, hl, hH, placeP, hw2, hw1, hk0, ← hsz2, hk1b, e2, e3, b1', b2', hc, hw8, hwq, hk22, hfl, hqc]
    · rw [if_neg hqc] at hf
      refine ⟨.tup [placeP d c, .int .i64 q, .bool false], ?_, d, c, q, by rw [hf]; rfl, fun x hx => by rw [hf] at hx; cases hx⟩
      simp [Try.f97, hl, hH, placeP, hw2, hw1, hk0, ← hsz2, hk1b, e2, e3, b1', b2', hc, hw8, hwq, hk22, hfl, hqc]
end Go.GL.Seat
