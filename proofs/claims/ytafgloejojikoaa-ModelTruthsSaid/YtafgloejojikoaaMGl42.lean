/-
  Walks, A: sorts of names, functions, kinds (package term).
  Walks, B: a function's sorts (package term).
  Walks, C: sorts of terms (package term).
  Walks, D: sorts of terms (package term).
-/
import Derived.Test.YtafgloejojikoaaMGsA
import Derived.Test.YtafgloejojikoaaMGdB
set_option linter.unusedSimpArgs false
set_option linter.unusedVariables false
/-! Walks, A: sorts of names, functions, kinds (package term). -/
namespace Go.GL.Seat
open Go.Proofs
set_option maxRecDepth 100000
set_option maxHeartbeats 1000000

theorem must_true {wl : Nat} (e : Int) (H : Heap) (hH : 0 < H.length) : E.call 110 wl [.bool true, .int .i64 e] H = some (.ret (.tup []), H) := by
  refine (E_call Try.func110 rfl rfl (by kernel_rfl) rfl _ (by exact Nat.le_of_ble_eq_true rfl) H).trans ?_
  simp [Try.f110, hH]
theorem must_false {wl : Nat} (e : Int) (H : Heap) : E.call 110 wl [.bool false, .int .i64 e] H = some (.panic (.iface 36 (.int .i64 e)), H) := by
  refine (E_call Try.func110 rfl rfl (by kernel_rfl) rfl _ (by exact Nat.le_of_ble_eq_true rfl) H).trans ?_
  simp [Try.f110]

theorem all_call {wl : Nat} (s : ByteArray) (f : Bool) (l : List ByteArray) (H : Heap) (hH : 0 < H.length) (hb : l.length < 1000000000000) :
    E.call 112 wl [.str s, .lst f (encF l)] H = some (if l.all (fun x => decide (x = s)) then .ret (.tup []) else .panic (.iface 36 (.int .i64 23)), H) := by
  refine (E_call Try.func112 rfl rfl (by kernel_rfl) rfl _ (by exact Nat.le_of_ble_eq_true rfl) H).trans ?_
  obtain ⟨r, hr⟩ : ∃ r, (l.all fun x => decide (x = s)) = r := ⟨_, rfl⟩
  rw [hr]
  simp [Try.f112]
  generalize hz : run tab E wl (Code.loop _) _ = z
  obtain ⟨x, s', rfl, hx, hH'⟩ := loop_up (fun c s => E_loop) hz l.length (fun i st => st.env 6 = .lst f (encF l) ∧ st.env 7 = .int .i64 l.length ∧ st.env 8 = .int .i64 i ∧ st.env 0 = .str s ∧ st.H = H ∧ ∀ j, j < i → l[j]? = some s)
    (fun x st => ((x = .exit 0 ∧ ∀ y ∈ l, y = s) ∨ (x = .panic (.iface 36 (.int .i64 23)) ∧ ¬ ∀ y ∈ l, y = s)) ∧ st.H = H) (by simp) (by
      rintro i ⟨e, L, H'⟩ hi ⟨h6, h7, h8, h0, hHH, hj⟩
      obtain ⟨t, ht⟩ : ∃ t, l[i]? = some t := ⟨_, List.getElem?_eq_getElem hi⟩
      simp at h6 h7 h8 h0 hHH
      subst hHH
      have hw2 := i64w (n := (i : Int) + 1) (by omega) (by omega)
      by_cases hts : t = s
      · simp [-getElem?_pos, h6, h7, h8, h0, ht, hi, hw2, hts, must_true]
        intro j hji
        rcases Nat.lt_or_ge j i with h | h
        · exact hj j h
        · have : j = i := by omega
          subst this; rw [ht, hts]
      · simp [-getElem?_pos, h6, h7, h8, h0, ht, hi, hw2, hts, must_false]
        exact ⟨t, List.mem_of_getElem? ht, hts⟩) (by
      rintro ⟨e, L, H'⟩ ⟨h6, h7, h8, h0, rfl, hj⟩
      simp at h6 h7 h8 h0
      simp [h6, h7, h8]
      intro y hy
      obtain ⟨j, hjy⟩ := List.getElem?_of_mem hy
      have := hj j (List.getElem?_eq_some_iff.1 hjy).1
      rw [this] at hjy
      injection hjy with hjy
      exact hjy.symm)
  rcases hx with ⟨rfl, hx⟩ | ⟨rfl, hx⟩
  · have h2 : r = true := by rw [← hr]; simpa using hx
    simp [hH', hH, h2]
  · have h2 : r = false := by rw [← hr]; simpa using hx
    simp [hH', h2]

/-! ### Is a sort a data's? -/
theorem dataC_call {wl : Nat} (d : Dt) (sort : ByteArray) (D K : Nat) (H : Heap) (hH : 0 < H.length) (hs : atS H D K = some (.box [.str sort])) (hD : D < H.length) :
    E.call 158 wl [d.enc, .ptr D K 0] H = some (.ret (.bool (decide (d.nm = sort))), H) := by
  refine (E_call Try.func158 rfl rfl (by kernel_rfl) rfl _ (by exact Nat.le_of_ble_eq_true rfl) H).trans ?_
  simp [Try.f158, Dt.enc, hs, Nat.ne_of_lt hD, hH]

theorem dataI_call {wl : Nat} (f : Bool) (ds : List Dt) (sort : ByteArray) (D K : Nat) (H : Heap) (hH : 0 < H.length) (hs : atS H D K = some (.box [.str sort])) (hD : D < H.length) (hb : ds.length < 1000000000000) :
    E.call 164 wl [.lst f (encD ds), .func (.func 158) [] [.ptr D K 0]] H = some (.ret (.int .i64 (match ds.findIdx? (fun d => decide (d.nm = sort)) with
      | some i => (i : Int)
      | none => -1)), H) := by
  refine (E_call Try.func164 rfl rfl (by kernel_rfl) rfl _ (by exact Nat.le_of_ble_eq_true rfl) H).trans ?_
  obtain ⟨r, hr⟩ : ∃ r, ds.findIdx? (fun d => decide (d.nm = sort)) = r := ⟨_, rfl⟩
  rw [hr]
  simp [Try.f164]
  generalize hz : run tab E wl (Code.loop _) _ = z
  obtain ⟨x, s', rfl, hx, hH'⟩ := loop_up (fun c s => E_loop) hz ds.length (fun i st => st.env 0 = .lst f (encD ds) ∧ st.env 1 = .func (.func 158) [] [.ptr D K 0] ∧ st.env 7 = .int .i64 ds.length ∧ st.env 8 = .int .i64 i ∧ st.H = H ∧ (∀ j d, j < i → ds[j]? = some d → d.nm ≠ sort))
    (fun x st => ((x = .exit 0 ∧ r = none) ∨ (x = .ret ∧ ∃ i : Nat, r = some i ∧ st.env 4 = .int .i64 i)) ∧ st.H = H) (by simp) (by
      rintro i ⟨e, L, H'⟩ hi ⟨h0, h1, h7, h8, hHH, hj⟩
      obtain ⟨t, ht⟩ : ∃ t, ds[i]? = some t := ⟨_, List.getElem?_eq_getElem hi⟩
      simp at h0 h1 h7 h8 hHH
      subst hHH
      have hw2 := i64w (n := (i : Int) + 1) (by omega) (by omega)
      have hc := fun L1 : List Blk => dataC_call (wl := wl) t sort D K (L1 :: H') (by simp) (by simp [Nat.ne_of_lt hD, hs]) (by simp; omega)
      simp only [Dt.enc] at hc
      by_cases hts : t.nm = sort
      · subst hts
        simp [-getElem?_pos, h0, h1, h7, h8, ht, hi, hw2, Dt.enc, hc]
        refine ⟨i, ?_, rfl⟩
        rw [← hr, List.findIdx?_eq_some_iff_getElem]
        obtain ⟨hi', hg⟩ := List.getElem?_eq_some_iff.1 ht
        refine ⟨hi', by simp [hg], fun j hji => ?_⟩
        have := hj j ds[j] hji (List.getElem?_eq_getElem (by omega))
        simpa using this
      · simp [-getElem?_pos, h0, h1, h7, h8, ht, hi, hw2, Dt.enc, hc, hts]
        intro j d hji hd
        rcases Nat.lt_or_ge j i with h | h
        · exact hj j d h hd
        · have : j = i := by omega
          subst this; rw [ht] at hd; injection hd with hd; subst hd; exact hts) (by
      rintro ⟨e, L, H'⟩ ⟨h0, h1, h7, h8, rfl, hj⟩
      simp at h0 h1 h7 h8
      simp [h7, h8]
      rw [← hr, List.findIdx?_eq_none_iff]
      intro d hd
      obtain ⟨j, hjd⟩ := List.getElem?_of_mem hd
      simpa using hj j d (List.getElem?_eq_some_iff.1 hjd).1 hjd)
  rcases hx with ⟨rfl, hx⟩ | ⟨rfl, i, hx, h4⟩
  · simp [hx, hH', hH]
  · simp [hx, hH', hH, h4]

theorem any_findIdx {α : Type} (p : α → Bool) (l : List α) : (decide ((match l.findIdx? p with
      | some i => ((i : Nat) : Int)
      | none => -1) ≥ 0)) = l.any p := by
  cases h : l.findIdx? p with
  | none =>
    rw [List.findIdx?_eq_none_iff] at h
    simp
    intro x hx
    simpa using h x hx
  | some i =>
    rw [List.findIdx?_eq_some_iff_getElem] at h
    obtain ⟨hi, hp, _⟩ := h
    simp
    exact ⟨_, List.getElem_mem hi, hp⟩

theorem dataF_call {wl : Nat} (f : Bool) (ds : List Dt) (sort : ByteArray) (D K : Nat) (H : Heap) (hH : 0 < H.length) (hs : atS H D K = some (.box [.str sort])) (hD : D < H.length) (hb : ds.length < 1000000000000) :
    E.call 157 wl [.lst f (encD ds), .func (.func 158) [] [.ptr D K 0]] H = some (.ret (.bool (ds.any fun d => decide (d.nm = sort))), H) := by
  refine (E_call Try.func157 rfl rfl (by kernel_rfl) rfl _ (by exact Nat.le_of_ble_eq_true rfl) H).trans ?_
  have hc := fun L1 : List Blk => dataI_call (wl := wl) f ds sort D K (L1 :: H) (by simp) (by simp [Nat.ne_of_lt hD, hs]) (by simp; omega) hb
  rw [← any_findIdx]
  simp [Try.f157, hc, hH]

/-- A sorter: a box of its datas and its scope. -/
def IsSorter (H : Heap) (D K : Nat) (fd : Bool) (ds : List Dt) (fs : Bool) (ss : List Sc) : Prop := atS H D K = some (.box [.lst fd (encD ds), .lst fs (encS ss)]) ∧ okD ds ∧ ss.length < 1000000000000
theorem IsSorter.up {H : Heap} {D K : Nat} {fd : Bool} {ds : List Dt} {fs : Bool} {ss : List Sc} (h : IsSorter H D K fd ds fs ss) (L : List Blk) : IsSorter (L :: H) D K fd ds fs ss := by
  have := atS_lt h.1
  exact ⟨by rw [atS_cons (by omega)]; exact h.1, h.2⟩

theorem data_call {wl : Nat} {D K : Nat} {fd : Bool} {ds : List Dt} {fs : Bool} {ss : List Sc} (sort : ByteArray) (H : Heap) (hs : IsSorter H D K fd ds fs ss) :
    E.call 145 wl [.ptr D K 0, .str sort] H = some (.ret (.bool (isD ds sort)), H) := by
  refine (E_call Try.func145 rfl rfl (by kernel_rfl) rfl _ (by exact Nat.le_of_ble_eq_true rfl) H).trans ?_
  have hD := atS_lt hs.1
  have hH : 0 < H.length := by omega
  have hc := fun L1 : List Blk => dataF_call (wl := wl) fd ds sort H.length 0 ((.box [.str sort] :: L1) :: H) (by simp) (by simp) (by simp) hs.2.1.1
  by_cases h1 : sort = bInt
  · simp [Try.f145, h1, hH, isD]
  · by_cases h2 : sort = bBool
    · simp [Try.f145, h2, hH, isD]
    · simp [Try.f145, h1, h2, hH, hs.1, Nat.ne_of_lt hD, hc, isD]

theorem base_call {wl : Nat} {D K : Nat} {fd : Bool} {ds : List Dt} {fs : Bool} {ss : List Sc} (sort : ByteArray) (H : Heap) (hs : IsSorter H D K fd ds fs ss) :
    E.call 143 wl [.ptr D K 0, .str sort] H = some (.ret (.bool (isB ds sort)), H) := by
  refine (E_call Try.func143 rfl rfl (by kernel_rfl) rfl _ (by exact Nat.le_of_ble_eq_true rfl) H).trans ?_
  have hD := atS_lt hs.1
  have hH : 0 < H.length := by omega
  have hc := fun L1 : List Blk => data_call (wl := wl) sort _ (hs.up L1)
  by_cases h1 : sort = bInt
  · simp [Try.f143, h1, hH, isB]
  · by_cases h2 : sort = bBool
    · simp [Try.f143, h2, hH, isB]
    · simp [Try.f143, h1, h2, hH, hc, isB]

theorem kids_call {wl : Nat} (k : Nat) (H : Heap) (hH : 0 < H.length) : E.call 109 wl [.int .u8 k] H = some (match many k with
    | some (some n) => .ret (.int .i64 n)
    | some none => .ret (.int .i64 (-1))
    | none => .panic (.iface 36 (.int .i64 23)), H) := by
  refine (E_call Try.func109 rfl rfl (by kernel_rfl) rfl _ (by exact Nat.le_of_ble_eq_true rfl) H).trans ?_
  match k with
  | 0 | 1 | 2 | 3 | 4 | 5 | 6 | 7 | 8 | 9 | 10 | 11 | 12 | 13 => simp [Try.f109, many, hH]
  | k + 14 =>
    have c : ∀ a : Int, a < 14 → ((k : Int) + 14 == a) = false := fun a h => by simp; omega
    have m : many (k + 14) = none := by
      unfold many
      repeat rw [if_neg (by omega)]
    rw [m]
    simp [Try.f109, c]
end Go.GL.Seat

/-! Walks, B: a function's sorts (package term). -/
namespace Go.GL.Seat
open Go.Proofs
set_option maxRecDepth 100000
set_option maxHeartbeats 2000000

theorem find_drop {α : Type} {p : α → Bool} {l : List α} {i : Nat} {x : α} (h : l[i]? = some x) : (l.drop i).find? p = if p x then some x else (l.drop (i + 1)).find? p := by
  obtain ⟨hi, rfl⟩ := List.getElem?_eq_some_iff.1 h
  rw [List.drop_eq_getElem_cons hi, List.find?_cons]
  cases p l[i] <;> rfl
theorem findC_drop {l : List Dt} {i : Nat} {x : Dt} (nm : ByteArray) (h : l[i]? = some x) : findC (l.drop i) nm = match x.cs.find? (fun c => decide (c.nm = nm)) with
    | some c => some (x, c)
    | none => findC (l.drop (i + 1)) nm := by
  obtain ⟨hi, rfl⟩ := List.getElem?_eq_some_iff.1 h
  rw [List.drop_eq_getElem_cons hi, findC]
  cases List.find? (fun c => decide (c.nm = nm)) l[i].cs <;> rfl

theorem Function_call {wl : Nat} (fd : Bool) (ds : List Dt) (nm : ByteArray) (H : Heap) (hH : 0 < H.length) (hb : okD ds) (hn : nm.size < 1000000000000) :
    E.call 144 wl [.lst fd (encD ds), .str nm] H = some (.ret (.tup (fnRes (fnOf ds nm))), H) := by
  refine (E_call Try.func144 rfl rfl (by kernel_rfl) rfl _ (by exact Nat.le_of_ble_eq_true rfl) H).trans ?_
  by_cases htag : nm = bTag
  · subst htag
    simp [Try.f144, fnOf, fnRes, hH]
  have hat := i64w (n := (nm.size : Int) - 2) (by omega) (by omega)
  by_cases hs : nm.size < 2
  · have hd : dotted nm = false := by simp [dotted]; omega
    simp [Try.f144, htag, hat, show (nm.size : Int) - 2 < 0 by omega, fnOf, hd, fnRes, hH]
  obtain ⟨m, hm⟩ : ∃ m, nm.size = m + 2 := ⟨nm.size - 2, by omega⟩
  have hm2 : (nm.size : Int) - 2 = (m : Int) := by omega
  rw [hm2] at hat
  have hat1 := i64w (n := (m : Int) + 1) (by omega) (by omega)
  have e1 : ¬ (m : Int) < 0 := by omega
  have e2 : ((m : Int) + 1).toNat = m + 1 := by omega
  have e3 : (0 : Int) ≤ (m : Int) + 1 := by omega
  rcases Decidable.em (byteAt nm m = 46) with b0 | b0
  case inr =>
    have hd : dotted nm = false := by simp [dotted, hm, b0]
    have b0' : ¬ (byteAt nm m : Int) = 46 := by omega
    simp [Try.f144, htag, hm, hat, e1, e2, e3, hat1, b0', fnOf, hd, fnRes, hH, hm2]
  have b0' : (byteAt nm m : Int) = 46 := by omega
  rcases Decidable.em (byteAt nm (m + 1) < 48) with b1 | b1
  case inl =>
    have hd : dotted nm = false := by simp [dotted, hm]; omega
    have b1' : (byteAt nm (m + 1) : Int) < 48 := by omega
    simp [Try.f144, htag, hm, hat, e1, e2, e3, hat1, b0', b1', fnOf, hd, fnRes, hH, hm2]
  have b1' : ¬ (byteAt nm (m + 1) : Int) < 48 := by omega
  rcases Decidable.em (57 < byteAt nm (m + 1)) with b2 | b2
  case inl =>
    have hd : dotted nm = false := by simp [dotted, hm]; omega
    have b2' : (57 : Int) < byteAt nm (m + 1) := by omega
    simp [Try.f144, htag, hm, hat, e1, e2, e3, hat1, b0', b1', b2', fnOf, hd, fnRes, hH, hm2]
  have b2' : ¬ (57 : Int) < byteAt nm (m + 1) := by omega
  have hd : dotted nm = true := by simp [dotted, hm, b0]; omega
  have hf : fnOf ds nm = match findC ds (nm.extract 0 m) with
    | some (d, c) => (c.fs[byteAt nm (m + 1) - 48]?).map fun s => (d.nm, s)
    | none => none := by
    unfold fnOf
    rw [if_neg htag, if_pos hd, hm]
    rfl
  obtain ⟨k, hk⟩ : ∃ k, byteAt nm (m + 1) = k + 48 := ⟨byteAt nm (m + 1) - 48, by omega⟩
  generalize hkey : nm.extract 0 m = key at hf
  have hcut : ¬ ((nm.size : Int) < (m : Int)) := by omega
  have hmm : (m : Int) ≤ (m : Int) + 2 := by omega
  have hwk := i64w (n := (k : Int)) (by omega) (by omega)
  have hu8 : IntKind.u8.wrap ((byteAt nm (m + 1) : Int) - 48) = (k : Int) := by
    rw [hk, IntKind.wrap_u8]; omega
  have hkk : byteAt nm (m + 1) - 48 = k := by omega
  rw [hkk] at hf
  obtain ⟨r, hr⟩ : ∃ r, fnRes (fnOf ds nm) = r := ⟨_, rfl⟩
  rw [hr]
  rw [hf] at hr
  simp [Try.f144, htag, hm, hat, e1, e2, e3, hat1, b0', b1', b2', hm2]
  generalize hz : run tab E wl (Code.loop _) _ = z
  obtain ⟨x, s', rfl, hx, hH'⟩ := loop_up (fun c s => E_loop) hz ds.length (fun i st => st.env 1 = .str nm ∧ st.env 7 = .int .i64 m ∧ st.env 40 = .lst fd (encD ds) ∧ st.env 41 = .int .i64 ds.length ∧ st.env 42 = .int .i64 i ∧ st.H = H ∧ findC ds key = findC (ds.drop i) key)
    (fun x st => ((x = .exit 0 ∧ findC ds key = none) ∨ (x = .ret ∧ [st.env 4, st.env 5, st.env 6] = r)) ∧ st.H = H) (by simp) (by
      rintro i ⟨e, L, H'⟩ hi ⟨h1, h7, h40, h41, h42, hHH, hfi⟩
      obtain ⟨d, hd'⟩ : ∃ d, ds[i]? = some d := ⟨_, List.getElem?_eq_getElem hi⟩
      have hbd := hb.2 d (List.mem_of_getElem? hd')
      have hl0 := hb.1
      simp at h1 h7 h40 h41 h42 hHH
      subst hHH
      rw [findC_drop key hd'] at hfi
      have hw2 := i64w (n := (i : Int) + 1) (by omega) (by omega)
      obtain ⟨dn, dcf, dcs⟩ := d
      simp only [] at hfi hbd
      simp [-getElem?_pos, h1, h7, h40, h41, h42, hd', hi, hw2, Dt.enc]
      generalize hz2 : run tab E wl (Code.loop _) _ = z2
      obtain ⟨x2, s2, rfl, hx2, hHs⟩ := loop_up (fun c s => E_loop) hz2 dcs.length (fun j st => st.env 1 = .str nm ∧ st.env 7 = .int .i64 m ∧ st.env 40 = .lst fd (encD ds) ∧ st.env 41 = .int .i64 ds.length ∧ st.env 42 = .int .i64 i ∧ st.env 9 = .ptr H'.length L.length 0 ∧ st.L[L.length]? = some (.box [.str dn, .lst dcf (encC dcs)])
          ∧ st.env 47 = .lst dcf (encC dcs) ∧ st.env 48 = .int .i64 dcs.length ∧ st.env 49 = .int .i64 j ∧ st.H = H' ∧ dcs.find? (fun c => decide (c.nm = key)) = (dcs.drop j).find? (fun c => decide (c.nm = key)))
        (fun x st => ((x = .exit 2 ∧ dcs.find? (fun c => decide (c.nm = key)) = none ∧ st.env 1 = .str nm ∧ st.env 7 = .int .i64 m ∧ st.env 40 = .lst fd (encD ds) ∧ st.env 41 = .int .i64 ds.length ∧ st.env 42 = .int .i64 i) ∨ (x = .ret ∧ [st.env 4, st.env 5, st.env 6] = r)) ∧ st.H = H') (by simp [h1, h7, h40, h41, h42]) (by
          rintro j ⟨e', L', H2⟩ hj ⟨g1, g7, g40, g41, g42, g9, gL, g47, g48, g49, gH, gf⟩
          obtain ⟨c, hc'⟩ : ∃ c, dcs[j]? = some c := ⟨_, List.getElem?_eq_getElem hj⟩
          have hcf := (hbd.2 c (List.mem_of_getElem? hc'))
          have hbd1 := hbd.1
          simp at g1 g7 g40 g41 g42 g9 gL g47 g48 g49 gH
          subst gH
          rw [find_drop hc'] at gf
          have hw3 := i64w (n := (j : Int) + 1) (by omega) (by omega)
          obtain ⟨cn, cff, cfs⟩ := c
          simp only [] at gf hcf
          by_cases hck : cn = key
          · subst hck
            rw [gf] at hfi
            simp at hfi
            rw [hfi] at hr
            simp at hr
            cases hfk : cfs[k]? with
            | some y =>
              rw [hfk] at hr
              have hlt := (List.getElem?_eq_some_iff.1 hfk).1
              simp [-getElem?_pos, g1, g7, g40, g41, g42, g9, g47, g48, g49, hc', hj, hw3, Cn.enc, hkey, hcut, hmm, hat1, e2, e3, hm, hu8, hwk, hlt, hfk, app_old gL, old_ne gL]
              rw [← hr]
              simp [fnRes]
            | none =>
              rw [hfk] at hr
              have hge : ¬ k < cfs.length := by
                have := List.getElem?_eq_none_iff.1 hfk
                omega
              simp [-getElem?_pos, g1, g7, g40, g41, g42, g9, g47, g48, g49, hc', hj, hw3, Cn.enc, hkey, hcut, hmm, hat1, e2, e3, hm, hu8, hwk, hge]
              rw [← hr]
              simp [fnRes]
          · have hne : decide (cn = key) = false := by simp [hck]
            rw [hne] at gf
            simp at gf
            simp [-getElem?_pos, g1, g7, g40, g41, g42, g9, g47, g48, g49, hc', hj, hw3, Cn.enc, hkey, hcut, hmm, hck, app_old gL, gf]) (by
          rintro ⟨e', L', H2⟩ ⟨g1, g7, g40, g41, g42, g9, gL, g47, g48, g49, gH, gf⟩
          simp at g1 g7 g40 g41 g42 g9 gL g47 g48 g49 gH
          simp at gf
          simp [g1, g7, g40, g41, g42, g47, g48, g49, gH]
          exact gf)
      rcases hx2 with ⟨rfl, hx2, q1, q7, q40, q41, q42⟩ | ⟨rfl, hx2⟩
      · rw [hx2] at hfi
        simp [q1, q7, q40, q41, q42, hHs, hw2, hfi]
      · simp [hHs]
        exact hx2) (by
      rintro ⟨e, L, H'⟩ ⟨h1, h7, h40, h41, h42, hHH, hfi⟩
      simp at h1 h7 h40 h41 h42 hHH
      simp at hfi
      simp [h1, h7, h40, h41, h42, hHH, hfi, findC])
  rcases hx with ⟨rfl, hx⟩ | ⟨rfl, hx⟩
  · rw [hx] at hr
    rw [← hr]
    simp [hH', hH, fnRes]
  · rw [← hx]
    have hr2 := hr
    rw [← hx] at hr2
    cases ho : (match findC ds key with
      | some (d, c) => (c.fs[k]?).map fun s => (d.nm, s)
      | none => none) with
    | none =>
      rw [ho] at hr2
      simp only [fnRes, List.cons.injEq] at hr2
      simp [hH', hH, ← hr2.1, ← hr2.2.1, ← hr2.2.2.1]
    | some q =>
      rw [ho] at hr2
      obtain ⟨q1, q2⟩ := q
      simp only [fnRes, List.cons.injEq] at hr2
      simp [hH', hH, ← hr2.1, ← hr2.2.1, ← hr2.2.2.1]
end Go.GL.Seat

/-! Walks, C: sorts of terms (package term). -/
namespace Go.GL.Seat
open Go.Proofs
set_option maxRecDepth 100000
set_option maxHeartbeats 2000000

theorem lastS_take {ss : List Sc} {i : Nat} {x : Sc} (nm : ByteArray) (h : ss[i]? = some x) : lastS (ss.take (i + 1)) nm = if x.1 = nm then some x.2 else lastS (ss.take i) nm := by
  unfold lastS
  rw [List.take_add_one, h]
  simp only [Option.toList_some, List.reverse_append, List.reverse_cons, List.reverse_nil, List.nil_append, List.singleton_append, List.find?_cons]
  by_cases hx : x.1 = nm <;> simp [hx]

/-- What a name comes to. -/
def varRes (ds : List Dt) (ss : List Sc) (nm : ByteArray) : Out := match lastS ss nm with
  | none => .panic (.iface 36 (.int .i64 21))
  | some s => if isB ds s then .ret (.str s) else .panic (.iface 36 (.int .i64 23))

theorem variable_call {wl : Nat} {D K : Nat} {fd : Bool} {ds : List Dt} {fs : Bool} {ss : List Sc} (nm : ByteArray) (H : Heap) (hs : IsSorter H D K fd ds fs ss) :
    E.call 111 wl [.ptr D K 0, .str nm] H = some (varRes ds ss nm, H) := by
  refine (E_call Try.func111 rfl rfl (by kernel_rfl) rfl _ (by exact Nat.le_of_ble_eq_true rfl) H).trans ?_
  have hD := atS_lt hs.1
  have hH : 0 < H.length := by omega
  have hlen := hs.2.2
  obtain ⟨r, hr⟩ : ∃ r, varRes ds ss nm = r := ⟨_, rfl⟩
  rw [hr]
  simp [Try.f111, hs.1, Nat.ne_of_lt hD]
  rw [if_pos (by unfold lim; refine ⟨by omega, ?_⟩; simp [encS, encS1]; rintro _ _ _ _ rfl; rfl)]
  simp only [rangeK_some]
  generalize hz : backR _ _ _ _ _ _ _ _ _ _ = z
  obtain ⟨x, s', rfl, hx⟩ := back_rule hz (fun i L H' => (lastS (ss.take i) nm = lastS ss nm) ∧ H' = H ∧ L[0]? = some (.box [.ptr D K 0]) ∧ L[1]? = some (.box [.str nm]) ∧ ∃ v, L[2]? = some (.box [v]))
    (fun x st => st.H = H ∧ ((x = .normal ∧ lastS ss nm = none) ∨ (x = .ret ∧ ∃ s, lastS ss nm = some s ∧ isB ds s = true ∧ st.L[2]? = some (.box [.str s])) ∨ (x = .panic (.iface 36 (.int .i64 23)) ∧ ∃ s, lastS ss nm = some s ∧ isB ds s = false)) ∧ st.env 4 = .ptr H.length 2 0)
    (by simp) (by
      intro i L H' x y hx hy hI
      obtain ⟨hl, rfl, hL0, hL1, v, hL2⟩ := hI
      rw [encS_get] at hx
      obtain ⟨⟨sn, so⟩, hx', rfl⟩ := Option.map_eq_some_iff.1 hx
      rw [lastS_take nm hx'] at hl
      simp [encS1] at hy
      subst hy
      have hb := fun L1 : List Blk => base_call (wl := wl) so _ (hs.up L1)
      have n2 := old_ne hL2
      by_cases hn : sn = nm
      · subst hn
        simp at hl
        cases hbs : isB ds so with
        | true =>
          simp [-getElem?_pos, app_old hL0, app_old hL1, app_old hL2, hb, hbs, must_true]
          have n3 : 2 < L.length := (List.getElem?_eq_some_iff.1 hL2).1
          exact ⟨so, hl.symm, hbs, by rw [List.getElem?_set_self (by simp; omega)]⟩
        | false =>
          simp [-getElem?_pos, app_old hL0, app_old hL1, app_old hL2, hb, hbs, must_false]
          exact ⟨so, hl.symm, hbs⟩
      · simp [hn] at hl
        simp [-getElem?_pos, app_old hL0, app_old hL1, app_old hL2, hn, hl]) (by
      intro x hx
      obtain ⟨s, _, rfl⟩ := List.mem_map.1 hx
      exact ⟨.agg [.str s.1, .str s.2], by simp [encS1]⟩) (by
      rintro L H' ⟨hl, rfl, _⟩
      have hl' : lastS ss nm = none := by rw [← hl]; rfl
      refine ⟨rfl, .inl ⟨rfl, hl'⟩, by simp⟩)
  obtain ⟨hH', hx, h4⟩ := hx
  subst hr
  rcases hx with ⟨rfl, hx⟩ | ⟨rfl, s, hx, hb, hL⟩ | ⟨rfl, s, hx, hb⟩
  · simp [varRes, hx, hH']
  · simp [varRes, hx, hb, hH', h4, hL, hH]
  · simp [varRes, hx, hb, hH']
end Go.GL.Seat

/-! Walks, D: sorts of terms (package term). -/
namespace Go.GL.Seat
open Go.Proofs
set_option maxRecDepth 100000
set_option maxHeartbeats 4000000

theorem natRight_call {wl : Nat} (f : Bool) (l : List Nat) (H : Heap) (hH : 0 < H.length) (hb : l.length < 1000000000000) :
    E.call 126 wl [.lst f (dig l)] H = some (.ret (.bool (rightD l)), H) := by
  refine (E_call Try.func126 rfl rfl (by kernel_rfl) rfl _ (by exact Nat.le_of_ble_eq_true rfl) H).trans ?_
  obtain ⟨r, hr⟩ : ∃ r, rightD l = r := ⟨_, rfl⟩
  rw [hr]
  simp [Try.f126]
  generalize hz : run tab E wl (Code.loop _) _ = z
  obtain ⟨x, s', rfl, hx, h0', hH'⟩ := loop_up (fun c s => E_loop) hz l.length (fun i st => st.env 0 = .lst f (dig l) ∧ st.env 5 = .lst f (dig l) ∧ st.env 6 = .int .i64 l.length ∧ st.env 7 = .int .i64 i ∧ st.H = H ∧ ∀ j d, j < i → l[j]? = some d → d < 1000000000)
    (fun x st => ((x = .exit 0 ∧ ∀ d ∈ l, d < 1000000000) ∨ (x = .ret ∧ st.env 2 = .bool false ∧ ¬ ∀ d ∈ l, d < 1000000000)) ∧ st.env 0 = .lst f (dig l) ∧ st.H = H) (by simp) (by
      rintro i ⟨e, L, H'⟩ hi ⟨h0, h5, h6, h7, hHH, hj⟩
      obtain ⟨d, hd⟩ : ∃ d, l[i]? = some d := ⟨_, List.getElem?_eq_getElem hi⟩
      simp at h0 h5 h6 h7 hHH
      subst hHH
      have hw2 := i64w (n := (i : Int) + 1) (by omega) (by omega)
      by_cases hdb : d < 1000000000
      · have hd' : ¬ (1000000000 : Int) ≤ d := by omega
        simp [-getElem?_pos, h0, h5, h6, h7, hd, hi, hw2, hd']
        intro j d' hji hd2
        rcases Nat.lt_or_ge j i with h | h
        · exact hj j d' h hd2
        · have : j = i := by omega
          subst this; rw [hd] at hd2; injection hd2 with hd2; omega
      · have hd' : (1000000000 : Int) ≤ d := by omega
        simp [-getElem?_pos, h0, h5, h6, h7, hd, hi, hw2, hd']
        exact ⟨d, List.mem_of_getElem? hd, by omega⟩) (by
      rintro ⟨e, L, H'⟩ ⟨h0, h5, h6, h7, hHH, hj⟩
      simp at h0 h5 h6 h7 hHH
      simp [h0, h5, h6, h7, hHH]
      intro d hd
      obtain ⟨j, hjd⟩ := List.getElem?_of_mem hd
      exact hj j d (List.getElem?_eq_some_iff.1 hjd).1 hjd)
  rcases hx with ⟨rfl, hx⟩ | ⟨rfl, h2, hx⟩
  · have hall : (l.all fun d => decide (d < 1000000000)) = true := by simpa using hx
    unfold rightD at hr
    rw [hall, Bool.true_and] at hr
    cases hl : l.getLast? with
    | none =>
      have : l = [] := List.getLast?_eq_none_iff.1 hl
      subst this
      rw [hl] at hr
      simp [h0', hH', hH, ← hr, dig]
    | some d =>
      rw [hl] at hr
      have hne : l ≠ [] := by rintro rfl; cases hl
      have hpos : 0 < l.length := List.length_pos_iff.2 hne
      have hlast : l[l.length - 1]? = some d := by rw [← List.getLast?_eq_getElem?]; exact hl
      have hw := i64w (n := (l.length : Int) - 1) (by omega) (by omega)
      have ht : ((l.length : Int) - 1).toNat = l.length - 1 := by omega
      have hn0 : ¬ l.length = 0 := by omega
      have hn1 : ¬ (l.length : Int) - 1 < 0 := by omega
      simp [-getElem?_pos, h0', hH', hH, ← hr, hn0, hw, ht, hn1, hlast, hne]
      by_cases h : d = 0 <;> simp [h]
  · have hall : (l.all fun d => decide (d < 1000000000)) = false := by simpa using hx
    unfold rightD at hr
    rw [hall, Bool.false_and] at hr
    simp [h2, hH', hH, ← hr]

theorem numRight_call {wl : Nat} (ng f : Bool) (l : List Nat) (H : Heap) (hH : 0 < H.length) (hb : l.length < 1000000000000) :
    E.call 91 wl [.agg [.bool ng, .lst f (dig l)]] H = some (.ret (.bool (rightN ng l)), H) := by
  refine (E_call Try.func91 rfl rfl (by kernel_rfl) rfl _ (by exact Nat.le_of_ble_eq_true rfl) H).trans ?_
  have hc := fun L1 : List Blk => natRight_call (wl := wl) f l (L1 :: H) (by simp) hb
  unfold rightN
  cases hr : rightD l with
  | false => simp [Try.f91, hc, hr, hH]
  | true =>
    cases ng with
    | false => simp [Try.f91, hc, hr, hH]
    | true =>
      simp [Try.f91, hc, hr, hH]
      cases l <;> simp

theorem app_call {wl : Nat} {D K : Nat} {fd : Bool} {ds : List Dt} {fs : Bool} {ss : List Sc} (nm kid : ByteArray) (H : Heap) (hs : IsSorter H D K fd ds fs ss) (hn : nm.size < 1000000000000) :
    E.call 113 wl [.ptr D K 0, .str nm, .str kid] H = some (match fnOf ds nm with
      | some (f, t) => if isD ds kid && (decide (nm = bTag) || decide (f = kid)) && isB ds t then .ret (.str t) else .panic (.iface 36 (.int .i64 23))
      | none => .panic (.iface 36 (.int .i64 23)), H) := by
  refine (E_call Try.func113 rfl rfl (by kernel_rfl) rfl _ (by exact Nat.le_of_ble_eq_true rfl) H).trans ?_
  have hD := atS_lt hs.1
  have hH : 0 < H.length := by omega
  have c1 := fun L1 : List Blk => Function_call (wl := wl) fd ds nm (L1 :: H) (by simp) hs.2.1 hn
  have c2 := fun (s : ByteArray) (L1 : List Blk) => data_call (wl := wl) s _ (hs.up L1)
  have c3 := fun (s : ByteArray) (L1 : List Blk) => base_call (wl := wl) s _ (hs.up L1)
  cases hf : fnOf ds nm with
  | none => simp [Try.f113, hs.1, Nat.ne_of_lt hD, c1, hf, fnRes, must_false]
  | some q =>
    obtain ⟨f, t⟩ := q
    cases h1 : isD ds kid with
    | false => simp [Try.f113, hs.1, Nat.ne_of_lt hD, c1, c2, hf, fnRes, must_false, h1]
    | true =>
      by_cases h2 : nm = bTag
      · subst h2
        cases h3 : isB ds t with
        | false => simp [Try.f113, hs.1, Nat.ne_of_lt hD, c1, c2, c3, hf, fnRes, must_false, h1, h3]
        | true => simp [Try.f113, hs.1, Nat.ne_of_lt hD, c1, c2, c3, hf, fnRes, must_true, h1, h3, hH]
      · by_cases h4 : f = kid
        · cases h3 : isB ds t with
          | false => simp [Try.f113, hs.1, Nat.ne_of_lt hD, c1, c2, c3, hf, fnRes, must_false, h1, h2, h3, h4]
          | true => simp [Try.f113, hs.1, Nat.ne_of_lt hD, c1, c2, c3, hf, fnRes, must_true, h1, h2, h3, h4, hH]
        · simp [Try.f113, hs.1, Nat.ne_of_lt hD, c1, c2, c3, hf, fnRes, must_false, h1, h2, h4]
end Go.GL.Seat
