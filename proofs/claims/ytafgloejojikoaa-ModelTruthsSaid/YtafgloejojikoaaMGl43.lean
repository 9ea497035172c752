/-
  Walks, xC: rows laid anew (slices.Clone).
  Walks, xS: rows of digits, numbers: are they the same (package whetstonekit).
  Walks, H: rows of digits (package nat).
-/
import Derived.Test.YtafgloejojikoaaMGsA
import Derived.Test.YtafgloejojikoaaMGdC
set_option linter.unusedSimpArgs false
set_option linter.unusedVariables false
/-! Walks, xC: rows laid anew (slices.Clone). -/
namespace Go.GL.Seat
open Go.Proofs
set_option maxRecDepth 100000
set_option maxHeartbeats 1000000

/-- An own row, handed out. -/
def rowF {α : Type} (l : List α) : Bool := decide (l = [])

theorem clone_call {wl : Nat} (f : Bool) (l : List Nat) (H : Heap) (hH : 0 < H.length) (hb : l.length < 1000000000000) :
    E.call 65 wl [.lst f (dig l)] H = some (.ret (.lst (rowF l) (dig l)), H) := by
  refine (E_spec (g := nilG tab nil65 8) rfl).trans ?_
  cases l with
  | nil => simp [nilG, nilK, nilF, nil65, codeL, codeR, bodyOf, Try.f65, dig, hH, rowF]
  | cons a l =>
    have h4 : (l.length + 1) * 4 ≤ lim := by simp only [List.length_cons] at hb; unfold lim; omega
    simp [nilG, nilK, nilF, nil65, codeL, codeR, bodyOf, Try.f65, dig, hH, rowF, h4]

end Go.GL.Seat

/-! Walks, xS: rows of digits, numbers: are they the same (package whetstonekit). -/
namespace Go.GL.Seat
open Go.Proofs
set_option maxRecDepth 100000
set_option maxHeartbeats 8000000

theorem list_eq_iff {α : Type} {a b : List α} (h : a.length = b.length) : a = b ↔ ∀ (i : Nat) (x y : α), a[i]? = some x → b[i]? = some y → x = y := by
  constructor
  · rintro rfl i x y hx hy
    rw [hx] at hy; injection hy
  · intro hh
    apply List.ext_getElem? 
    intro i
    cases hx : a[i]? with
    | none =>
      have := List.getElem?_eq_none_iff.1 hx
      exact (List.getElem?_eq_none_iff.2 (by omega)).symm
    | some x =>
      have hi := (List.getElem?_eq_some_iff.1 hx).1
      have hy : b[i]? = some b[i] := List.getElem?_eq_getElem (by omega)
      rw [hy, hh i x _ hx hy]

theorem limbs_call {wl : Nat} (f g : Bool) (a b : List Nat) (H : Heap) (hH : 0 < H.length) (hb : a.length < 1000000000000) :
    E.call 52 wl [.lst f (dig a), .lst g (dig b)] H = some (.ret (.bool (decide (a = b))), H) := by
  refine (E_call Try.func52 rfl rfl (by kernel_rfl) rfl _ (by exact Nat.le_of_ble_eq_true rfl) H).trans ?_
  by_cases hl : a.length = b.length
  case neg =>
    have hne : a ≠ b := fun h => hl (by rw [h])
    have hl2 : ¬ ((a.length : Int) = b.length) := by omega
    simp [Try.f52, hl2, hl, hne, hH]
  obtain ⟨r, hr⟩ : ∃ r, decide (a = b) = r := ⟨_, rfl⟩
  rw [hr]
  have hl2 : (a.length : Int) = b.length := by omega
  simp [Try.f52, hl2]
  generalize hz : run tab E wl (Code.loop _) _ = z
  obtain ⟨x, s', rfl, hx, hH'⟩ := loop_up (fun c s => E_loop) hz b.length (fun i st => st.env 0 = .lst f (dig a) ∧ st.env 1 = .lst g (dig b) ∧ st.env 5 = .int .i64 i ∧ st.H = H ∧ ∀ j x y, j < i → a[j]? = some x → b[j]? = some y → x = y)
    (fun x st => ((x = .exit 0 ∧ r = true) ∨ (x = .ret ∧ r = false ∧ st.env 4 = .bool false)) ∧ st.H = H) (by simp) (by
      rintro i ⟨e, L, H'⟩ hi ⟨h0, h1, h5, hHH, hj⟩
      have hi2 : i < b.length := hi
      obtain ⟨t, ht⟩ : ∃ t, a[i]? = some t := ⟨_, List.getElem?_eq_getElem (by omega)⟩
      obtain ⟨u, hu⟩ : ∃ u, b[i]? = some u := ⟨_, List.getElem?_eq_getElem (by omega)⟩
      simp only [] at h0 h1 h5 hHH
      subst hHH
      have hia : i < a.length := by omega
      have hw2 := i64w (n := (i : Int) + 1) (by omega) (by omega)
      by_cases hts : t = u
      · subst hts
        simp [-getElem?_pos, h0, h1, h5, ht, hu, hi, hia, hw2]
        intro j x y hji hx hy
        rcases Nat.lt_or_ge j i with h | h
        · exact hj j x y h hx hy
        · have : j = i := by omega
          subst this; rw [ht] at hx; rw [hu] at hy; injection hx with hx; injection hy with hy; rw [← hx, hy]
      · have hts2 : ¬ (t : Int) = u := by omega
        simp [-getElem?_pos, h0, h1, h5, ht, hu, hi, hia, hw2, hts2, ← hr]
        rintro rfl
        rw [ht] at hu
        injection hu with hu
        exact hts hu) (by
      rintro ⟨e, L, H'⟩ ⟨h0, h1, h5, hHH, hj⟩
      simp only [] at h0 h1 h5 hHH
      have hna : ¬ b.length < a.length := by omega
      simp [h0, h1, h5, hHH, ← hr, hna]
      rw [list_eq_iff hl]
      intro i x y hx hy
      exact hj i x y (List.getElem?_eq_some_iff.1 hy).1 hx hy)
  rcases hx with ⟨rfl, hx⟩ | ⟨rfl, hx, h4⟩
  · simp [hH', hH, hx]
  · simp [hH', hx, h4, hH]

theorem sameInt_call {wl : Nat} (n1 n2 f g : Bool) (a b : List Nat) (H : Heap) (hH : 0 < H.length) (hb : a.length < 1000000000000) :
    E.call 17 wl [.agg [.bool n1, .lst f (dig a)], .agg [.bool n2, .lst g (dig b)]] H = some (.ret (.bool ((n1 == n2) && decide (a = b))), H) := by
  refine (E_call Try.func17 rfl rfl (by kernel_rfl) rfl _ (by exact Nat.le_of_ble_eq_true rfl) H).trans ?_
  have hc := fun (w2 : Nat) (L1 : List Blk) => limbs_call (wl := w2) f g a b (L1 :: H) (by simp) hb
  cases n1 <;> cases n2 <;> simp [Try.f17, hc, hH]

end Go.GL.Seat

/-! Walks, H: rows of digits (package nat). -/
namespace Go.GL.Seat
open Go.Proofs
set_option maxRecDepth 100000
set_option maxHeartbeats 8000000

theorem at_call {wl : Nat} (f : Bool) (l : List Nat) (k : Nat) (H : Heap) (hH : 0 < H.length) :
    E.call 152 wl [.lst f (dig64 l), .int .i64 k] H = some (.ret (.int .u64 (l[k]?.getD 0 : Nat)), H) := by
  refine (E_call Try.func152 rfl rfl (by kernel_rfl) rfl _ (by exact Nat.le_of_ble_eq_true rfl) H).trans ?_
  cases h : l[k]? with
  | none =>
    have h1 : ¬ k < l.length := by have := List.getElem?_eq_none_iff.1 h; omega
    simp [-getElem?_pos, Try.f152, h, h1, hH]
  | some d =>
    have h1 : k < l.length := (List.getElem?_eq_some_iff.1 h).1
    simp [-getElem?_pos, Try.f152, h, h1, hH]

theorem top_call {wl : Nat} (f : Bool) (l : List Nat) (hl : l ≠ []) (hb : l.length < 1000000000000) (H : Heap) (hH : 0 < H.length) :
    E.call 161 wl [.lst f (dig64 l)] H = some (.ret (.int .u64 (l.getLast hl : Nat)), H) := by
  refine (E_call Try.func161 rfl rfl (by kernel_rfl) rfl _ (by exact Nat.le_of_ble_eq_true rfl) H).trans ?_
  have hp := List.length_pos_iff.2 hl
  have hc := fun L1 : List Blk => at_call (wl := wl) f l (l.length - 1) (L1 :: H) (by simp)
  rw [List.getLast_eq_getElem]
  have hw := i64w (n := (l.length : Int) - 1) (by omega) (by omega)
  have he : ((l.length - 1 : Nat) : Int) = (l.length : Int) - 1 := by omega
  have h1 : l.length - 1 < l.length := by omega
  rw [he] at hc
  simp [h1] at hc
  simp [Try.f161, hw, hc, hH]

theorem wrap_u64 (n : Int) : IntKind.u64.wrap n = n % 18446744073709551616 := by simp [IntKind.wrap, IntKind.min, IntKind.max, IntKind.bits, IntKind.signed]
theorem u64w {n : Int} (h1 : 0 ≤ n) (h2 : n ≤ 18446744073709551615) : IntKind.u64.wrap n = n := IntWalk.u64_in n ⟨h1, h2⟩
theorem tmodN (a : Nat) : Int.tmod (a : Int) 1000000000 = ((a % B9 : Nat) : Int) := by
  rw [Int.tmod_eq_emod_of_nonneg (by omega)]; rfl
theorem tdivN (a : Nat) : Int.tdiv (a : Int) 1000000000 = ((a / B9 : Nat) : Int) := by
  rw [Int.tdiv_eq_ediv_of_nonneg (by omega)]; rfl

/-- A row of this frame's, or one that is closed. -/
def Row64 (d : Nat) (L : List Blk) (v : PV) (l : List Nat) : Prop := v = .lst false (dig64 l) ∨ ∃ kk live, v = .own d kk l.length 1 ∧ L[kk]? = some (.arr live 1 (dig64 l))

theorem carried_call {wl : Nat} (f : Bool) (l : List Nat) (hl : l.length < 100000000000) (hd : ∀ d ∈ l, d ≤ 4611686018427387904) (H : Heap) (hH : 0 < H.length) :
    E.call 153 wl [.lst f (dig64 l)] H = some (.ret (.agg [.lst false (dig64 (trimD (carryD 0 l)))]), H) := by
  have hcall := E_call (wl := wl) Try.func153 rfl rfl (by kernel_rfl) rfl [.lst f (dig64 l)] (by exact Nat.le_of_ble_eq_true rfl) H
  obtain ⟨o, ho⟩ : ∃ o, E.call 153 wl [.lst f (dig64 l)] H = o := ⟨_, rfl⟩
  rw [ho]
  rw [hcall] at ho
  clear hcall
  have hlen := carryD_length (M := 4611686018427387904) (by omega) (by omega) l 0 (by omega) hd
  obtain ⟨m, hm⟩ : ∃ m : Int, m = (l.length : Int) + 2 := ⟨_, rfl⟩
  have hw : IntKind.i64.wrap ((l.length : Int) + 2) = m := by rw [hm]; exact i64w (by omega) (by omega)
  have hcap : m * 8 ≤ (lim : Int) := by unfold lim; omega
  have hcap2 : (0 : Int) ≤ m := by omega
  simp [Try.f153, hw, hcap2, hcap] at ho
  generalize hz : run tab E wl (Code.loop _) _ = z at ho
  obtain ⟨x, s', rfl, hx⟩ := loop_up (fun c s => E_loop) hz (carryD 0 l).length (fun i st => ∃ l1 c kk b0, l1.length = i ∧ carryD 0 l = l1 ++ carryD c (l.drop i) ∧ c ≤ 4611686018427387904 ∧ st.env 0 = .lst f (dig64 l) ∧ st.env 2 = .ptr H.length 0 0 ∧ st.env 3 = .own H.length kk i 1 ∧ st.L[kk]? = some (.arr true 1 (dig64 l1)) ∧ st.env 4 = .int .u64 c ∧ st.env 5 = .int .i64 i ∧ st.H = H ∧ st.L[0]? = some (.box [b0]))
    (fun x st => x = .exit 0 ∧ ∃ kk b0, st.env 2 = .ptr H.length 0 0 ∧ st.env 3 = .own H.length kk (carryD 0 l).length 1 ∧ st.L[kk]? = some (.arr true 1 (dig64 (carryD 0 l))) ∧ st.H = H ∧ st.L[0]? = some (.box [b0]))
    ⟨[], 0, 1, _, rfl, by simp, by omega, by simp, by simp, by simp, by simp [dig64], by simp, by simp, by simp, by simp; rfl⟩ (by
      rintro i ⟨e, L, H'⟩ hi ⟨l1, c, kk, b0, hl1, hca, hc, h0, h2, h3, hkk, h4, h5, hHH, hL0⟩
      simp at h0 h2 h3 hkk h4 h5 hHH hL0
      subst hHH
      have hlt : i < l.length ∨ 0 < c := by
        rcases Nat.lt_or_ge i l.length with h | h
        · exact .inl h
        · refine .inr ?_
          rcases Nat.eq_zero_or_pos c with rfl | h'
          · rw [List.drop_eq_nil_of_le h] at hca
            rw [hca] at hi
            simp [carryD, hl1] at hi
          · exact h'
      rw [carryD_eq (c := c) (l := l.drop i) (by rw [List.length_drop]; omega), List.tail_drop, List.getElem?_drop, Nat.add_zero] at hca
      have hc2 := fun L1 : List Blk => at_call (wl := wl) f l i (L1 :: H') (by simp)
      have hx : l[i]?.getD 0 ≤ 4611686018427387904 := by
        cases h : l[i]? with
        | none => simp
        | some d => exact hd d (List.mem_of_getElem? h)
      obtain ⟨x, hxe⟩ : ∃ x, l[i]?.getD 0 = x := ⟨_, rfl⟩
      rw [hxe] at hca hc2 hx
      have hcl := carry_lt hc hx (by omega)
      obtain ⟨sm, hsm⟩ : ∃ sm, c + x = sm := ⟨_, rfl⟩
      obtain ⟨y, hy⟩ : ∃ y, sm % B9 = y := ⟨_, rfl⟩
      obtain ⟨q, hq⟩ : ∃ q, sm / B9 = q := ⟨_, rfl⟩
      rw [hsm, hy, hq] at hca
      rw [hsm, hq] at hcl
      have hwx : IntKind.u64.wrap ((c : Int) + x) = (sm : Int) := by rw [u64w (by omega) (by omega)]; omega
      have hrem : Int.tmod (sm : Int) 1000000000 = (y : Int) := by rw [tmodN, hy]
      have hquo : Int.tdiv (sm : Int) 1000000000 = (q : Int) := by rw [tdivN, hq]
      have hwd : IntKind.u64.wrap (q : Int) = (q : Int) := u64w (by omega) (by omega)
      have hlm : (i + 1) * 8 ≤ lim := by unfold lim; omega
      have hw2 := i64w (n := (i : Int) + 1) (by omega) (by omega)
      have hkl := old_ne hkk
      have hkL := (List.getElem?_eq_some_iff.1 hkk).1
      have hk0 : kk ≠ 0 := by
        rintro rfl
        rw [hkk] at hL0
        cases hL0
      have fini : ∃ l1_1 : List Nat, l1_1.length = i + 1 ∧ ∃ x, carryD 0 l = l1_1 ++ carryD x (List.drop (i + 1) l) ∧ x ≤ 4611686018427387904 ∧
          ((L ++ [Blk.gone]).set kk (Blk.arr true 1 (dig64 l1 ++ [PV.int IntKind.u64 (y : Int)])))[kk]? = some (Blk.arr true 1 (dig64 l1_1)) ∧ (q : Int) = x ∧ ∃ x, ((L ++ [Blk.gone]).set kk (Blk.arr true 1 (dig64 l1 ++ [PV.int IntKind.u64 (y : Int)])))[0]? = some (Blk.box [x]) :=
        ⟨l1 ++ [y], by simp [hl1], q, by simp [hca], hcl, by rw [List.getElem?_set_self (by simp; omega)]; simp [dig64], rfl, b0, by rw [List.getElem?_set_ne hk0]; exact app_old hL0⟩
      rcases Nat.lt_or_ge i l.length with h | h
      · simp [-getElem?_pos, h0, h2, h3, h4, h5, h, hc2, hwx, hwd, hw2, hrem, hquo, hl1, hlm, hkk, app_old hkk]
        exact fini
      · have h' : ¬ i < l.length := by omega
        have h0c : 0 < c := by omega
        simp [-getElem?_pos, h0, h2, h3, h4, h5, h', h0c, hc2, hwx, hwd, hw2, hrem, hquo, hl1, hlm, hkk, app_old hkk]
        exact fini) (by
      rintro ⟨e, L, H'⟩ ⟨l1, c, kk, b0, hl1, hca, hc, h0, h2, h3, hkk, h4, h5, hHH, hL0⟩
      simp at h0 h2 h3 hkk h4 h5 hHH hL0
      have hnil : carryD c (l.drop (carryD 0 l).length) = [] := by
        have := congrArg List.length hca
        rw [List.length_append, hl1] at this
        exact List.eq_nil_of_length_eq_zero (by omega)
      rw [hnil, List.append_nil] at hca
      have hno : ¬ (0 < (l.drop (carryD 0 l).length).length ∨ 0 < c) := fun h => by rw [carryD_eq h] at hnil; cases hnil
      rw [List.length_drop] at hno
      have h1 : ¬ (carryD 0 l).length < l.length := by omega
      have h2' : c = 0 := by omega
      subst h2'
      rw [← hca] at hkk
      simp [h0, h2, h3, h4, h5, h1, hHH]
      exact ⟨hkk, b0, hL0⟩)
  obtain ⟨rfl, kk, b0, h2, h3, hkk, hHH, hL0⟩ := hx
  simp at ho
  obtain ⟨r0, hr0⟩ : ∃ r0, carryD 0 l = r0 := ⟨_, rfl⟩
  rw [hr0] at h3 hkk hlen ⊢
  generalize hz : run tab E wl (Code.loop _) _ = z at ho
  obtain ⟨x, s', rfl, hx⟩ := loop_up (fun c s => E_loop) hz r0.length (fun i st => ∃ l1 b0, l1.length = r0.length - i ∧ trimD l1 = trimD r0 ∧ st.env 2 = .ptr H.length 0 0 ∧ Row64 H.length st.L (st.env 3) l1 ∧ st.H = H ∧ st.L[0]? = some (.box [b0]))
    (fun x st => x = .exit 2 ∧ ∃ b0, st.env 2 = .ptr H.length 0 0 ∧ Row64 H.length st.L (st.env 3) (trimD r0) ∧ st.H = H ∧ st.L[0]? = some (.box [b0]))
    ⟨r0, b0, by simp, rfl, h2, .inr ⟨kk, true, h3, hkk⟩, hHH, hL0⟩ (by
      rintro i ⟨e, L, H'⟩ hi ⟨l1, b1, hl1, htr, h2, hrow, hHH, hL0⟩
      simp at h2 hHH hL0
      subst hHH
      have hne : l1 ≠ [] := by rintro rfl; simp at hl1; omega
      have hp := List.length_pos_iff.2 hne
      have ht := trimD_last hne
      obtain ⟨d, hd⟩ : ∃ d, l1.getLast hne = d := ⟨_, rfl⟩
      have hc2 := fun (f : Bool) (L1 : List Blk) => top_call (wl := wl) f l1 hne (by omega) (L1 :: H') (by simp)
      rw [hd] at ht hc2
      have hw2 := i64w (n := (l1.length : Int) - 1) (by omega) (by omega)
      have htk : List.take (l1.length - 1) (dig64 l1) = dig64 l1.dropLast := by rw [List.dropLast_eq_take]; simp [dig64]
      rcases hrow with h3 | ⟨k2, live, h3, hkk⟩
      · simp at h3
        by_cases hd0 : d = 0
        · simp [-getElem?_pos, h2, h3, hp, hc2, hd0, hw2]
          exact ⟨by omega, by omega, l1.dropLast, by simp; omega, by rw [← htr, ht, if_pos hd0], .inl (by rw [htk]), b1, hL0⟩
        · simp [-getElem?_pos, h2, h3, hp, hc2, hd0]
          exact ⟨.inl (by rw [← htr, ht, if_neg hd0]), b1, hL0⟩
      · simp at h3 hkk
        have hkL := (List.getElem?_eq_some_iff.1 hkk).1
        have hk0 : k2 ≠ 0 := by
          rintro rfl
          rw [hkk] at hL0
          cases hL0
        have hks : ∀ b, (L.set k2 b)[k2]? = some b := fun b => List.getElem?_set_self hkL
        by_cases hd0 : d = 0
        · simp [-getElem?_pos, h2, h3, hp, hc2, hd0, hw2, hkk, hks]
          exact ⟨by omega, by omega, l1.dropLast, by simp; omega, by rw [← htr, ht, if_pos hd0], .inl (by rw [htk]), b1, by rw [List.getElem?_set_ne hk0]; exact hL0⟩
        · simp [-getElem?_pos, h2, h3, hp, hc2, hd0, hkk]
          exact ⟨by rw [← htr, ht, if_neg hd0]; exact .inr ⟨k2, false, rfl, hks _⟩, b1, by rw [List.getElem?_set_ne hk0]; exact hL0⟩) (by
      rintro ⟨e, L, H'⟩ ⟨l1, b1, hl1, htr, h2, hrow, hHH, hL0⟩
      simp at h2 hHH hL0
      subst hHH
      have hnil : l1 = [] := List.eq_nil_of_length_eq_zero (by omega)
      subst hnil
      rw [← htr]
      rcases hrow with h3 | ⟨k2, live, h3, hkk⟩
      · simp [dig64] at h3
        simp [h2, h3]
        exact ⟨.inl (by simp [trimD, dig64]), b1, hL0⟩
      · simp at h3 hkk
        simp [h2, h3]
        exact ⟨.inr ⟨k2, live, by simp [trimD], hkk⟩, b1, hL0⟩)
  obtain ⟨rfl, b1, h2, hrow, hHH, hL0⟩ := hx
  have h0s : ∀ b, (s'.L.set 0 b)[0]? = some b := fun b => List.getElem?_set_self (List.getElem?_eq_some_iff.1 hL0).1
  rcases hrow with h3 | ⟨k2, live, h3, hkk⟩
  · simp [-getElem?_pos, h2, h3, hHH, hL0, hH, h0s] at ho
    exact ho.symm
  · have hk0 : k2 ≠ 0 := by
      rintro rfl
      rw [hkk] at hL0
      cases hL0
    have hk1 : ∀ b, (s'.L.set 0 b)[k2]? = some (.arr live 1 (dig64 (trimD r0))) := fun b => by rw [List.getElem?_set_ne (fun h => hk0 h.symm)]; exact hkk
    simp [-getElem?_pos, h2, h3, hHH, hL0, hH, hkk, hk1, h0s] at ho
    exact ho.symm

theorem of_nat_call {wl : Nat} (f : Bool) (l : List Nat) (hl : l.length < 100000000000) (hd : ∀ d ∈ l, d ≤ 4294967295) (H : Heap) (hH : 0 < H.length) :
    E.call 138 wl [.lst f (dig l)] H = some (.ret (.agg [.lst false (dig64 (trimD (carryD 0 l)))]), H) := by
  refine (E_call Try.func138 rfl rfl (by kernel_rfl) rfl _ (by exact Nat.le_of_ble_eq_true rfl) H).trans ?_
  have hcap : ((l.length : Int)) * 8 ≤ (lim : Int) := by unfold lim; omega
  have hc := fun L1 : List Blk => carried_call (wl := wl) false l hl (fun d h => by have := hd d h; omega) (L1 :: H) (by simp)
  obtain ⟨r, hr⟩ : ∃ r, dig64 (trimD (carryD 0 l)) = r := ⟨_, rfl⟩
  rw [hr] at hc ⊢
  simp [Try.f138, hcap]
  generalize hz : run tab E wl (Code.loop _) _ = z
  obtain ⟨x, s', rfl, hx⟩ := loop_up (fun c s => E_loop) hz l.length (fun i st => ∃ b0, st.env 2 = .ptr H.length 0 0 ∧ st.env 3 = .own H.length 1 l.length 1 ∧ st.L[1]? = some (.arr true 1 (dig64 (l.take i ++ List.replicate (l.length - i) 0))) ∧ st.env 9 = .lst f (dig l) ∧ st.env 10 = .int .i64 l.length ∧ st.env 11 = .int .i64 i ∧ st.H = H ∧ st.L[0]? = some (.box [b0]))
    (fun x st => ∃ b0, x = .exit 0 ∧ st.env 2 = .ptr H.length 0 0 ∧ st.env 3 = .own H.length 1 l.length 1 ∧ st.L[1]? = some (.arr true 1 (dig64 l)) ∧ st.H = H ∧ st.L[0]? = some (.box [b0]))
    ⟨_, by simp, by simp, by simp [dig64], by simp, by simp, by simp, by simp, by simp; rfl⟩ (by
      rintro i ⟨e, L, H'⟩ hi ⟨b0, h2, h3, hL1, h9, h10, h11, hHH, hL0⟩
      simp only [] at h2 h3 hL1 h9 h10 h11 hHH hL0
      subst hHH
      obtain ⟨t, ht⟩ : ∃ t, l[i]? = some t := ⟨_, List.getElem?_eq_getElem hi⟩
      have htd := hd t (List.mem_of_getElem? ht)
      have hw := u64w (n := (t : Int)) (by omega) (by omega)
      have hw2 := i64w (n := (i : Int) + 1) (by omega) (by omega)
      have hln : (dig64 (l.take i ++ List.replicate (l.length - i) 0)).length = l.length := by simp; omega
      obtain ⟨xs, hxs⟩ : ∃ xs, dig64 (l.take i ++ List.replicate (l.length - i) 0) = xs := ⟨_, rfl⟩
      rw [hxs] at hL1 hln
      have hLl := (List.getElem?_eq_some_iff.1 hL1).1
      have hfin : (L.set 1 (.arr true 1 (xs.set i (.int .u64 t))))[1]? = some (.arr true 1 (dig64 (l.take (i + 1) ++ List.replicate (l.length - (i + 1)) 0))) := by
        rw [List.getElem?_set_self hLl, ← hxs]
        congr 2
        have hr1 : List.replicate (l.length - i) (0 : Nat) = 0 :: List.replicate (l.length - (i + 1)) 0 := by rw [← List.replicate_succ]; congr 1; omega
        have hil : i < l.length := hi
        rw [hr1, List.take_add_one, ht]
        simp [dig64, List.set_append, Nat.min_eq_left (Nat.le_of_lt hil)]
      simp [-getElem?_pos, h2, h3, hL1, h9, h10, h11, ht, hi, hw, hw2, hln]
      exact ⟨hfin, b0, hL0⟩) (by
      rintro ⟨e, L, H'⟩ ⟨b0, h2, h3, hL1, h9, h10, h11, hHH, hL0⟩
      simp at h2 h3 hL1 h9 h10 h11 hHH hL0
      simp [h2, h3, h9, h10, h11, hHH]
      exact ⟨hL1, b0, hL0⟩)
  obtain ⟨b0, rfl, h2, h3, hL1, hHH, hL0⟩ := hx
  have h0s : ∀ b, ((s'.L.set 1 (.arr false 1 (dig64 l))).set 0 b)[0]? = some b := fun b => List.getElem?_set_self (by have := (List.getElem?_eq_some_iff.1 hL0).1; simpa using this)
  simp [-getElem?_pos, h2, h3, hL1, hHH, hL0, hH, hc, h0s]

theorem u32w {n : Int} (h1 : 0 ≤ n) (h2 : n ≤ 4294967295) : IntKind.u32.wrap n = n := IntWalk.u32_in n ⟨h1, h2⟩

/-- A row that a loop makes, in a slot. -/
def RowD (d : Nat) (st : St) (v : PV) (l : List Nat) : Prop := (l = [] ∧ v = .lst true []) ∨ (l ≠ [] ∧ ∃ kk, v = .own d kk l.length 1 ∧ st.L[kk]? = some (.arr true 1 (dig l)))

theorem row_call {wl : Nat} (f : Bool) (l : List Nat) (hl : l.length < 1000000000000) (hd : ∀ d ∈ l, d ≤ 4294967295) (H : Heap) (hH : 0 < H.length) :
    E.call 141 wl [.agg [.lst f (dig64 l)]] H = some (.ret (.lst (rowF l) (dig l)), H) := by
  refine (E_call Try.func141 rfl rfl (by kernel_rfl) rfl _ (by exact Nat.le_of_ble_eq_true rfl) H).trans ?_
  obtain ⟨r, hr⟩ : ∃ r, PV.lst (rowF l) (dig l) = r := ⟨_, rfl⟩
  rw [hr]
  simp [Try.f141]
  generalize hz : run tab E wl (Code.loop _) _ = z
  obtain ⟨x, s', rfl, hx⟩ := loop_up (fun c s => E_loop) hz l.length (fun i st => RowD H.length st (st.env 3) (l.take i) ∧ st.env 7 = .lst f (dig64 l) ∧ st.env 8 = .int .i64 l.length ∧ st.env 9 = .int .i64 i ∧ st.H = H)
    (fun x st => x = .exit 0 ∧ RowD H.length st (st.env 3) l ∧ st.H = H)
    ⟨.inl ⟨by simp, by simp⟩, by simp, by simp, by simp, by simp⟩ (by
      rintro i ⟨e, L, H'⟩ hi ⟨hrow, h7, h8, h9, hHH⟩
      simp only [] at h7 h8 h9 hHH
      subst hHH
      obtain ⟨t, ht⟩ : ∃ t, l[i]? = some t := ⟨_, List.getElem?_eq_getElem hi⟩
      have htd := hd t (List.mem_of_getElem? ht)
      have hw := u32w (n := (t : Int)) (by omega) (by omega)
      have hw2 := i64w (n := (i : Int) + 1) (by omega) (by omega)
      have hil : i < l.length := hi
      have htk : l.take (i + 1) = l.take i ++ [t] := by rw [List.take_add_one, ht]; rfl
      rcases hrow with ⟨hnil, h3⟩ | ⟨hne, kk, h3, hkk⟩
      · simp at h3
        have hi0 : i = 0 := by
          have := congrArg List.length hnil
          simp at this
          rcases this with h | h
          · exact h
          · rw [h] at hil; simp at hil
        subst hi0
        simp [-getElem?_pos, h3, h7, h8, h9, ht, hi, hw, lim]
        exact .inr ⟨by simp [htk], L.length + 1, by simp [htk], by simp [htk, dig]⟩
      · simp at h3 hkk
        have hkl := (List.getElem?_eq_some_iff.1 hkk).1
        have hmin : min i l.length = i := by omega
        rw [hmin] at h3
        have hlm : (i + 1) * 4 ≤ lim := by unfold lim; omega
        have hdl : (dig (l.take i)).length = i := by simp; omega
        simp [-getElem?_pos, h3, h7, h8, h9, ht, hi, hw, hw2, app_old hkk, hlm, hmin]
        refine .inr ⟨by simp [htk], kk, ?_, ?_⟩
        · simp; omega
        · simp only []
          rw [List.getElem?_set_self (by simp; omega), htk]
          simp [dig]) (by
      rintro ⟨e, L, H'⟩ ⟨hrow, h7, h8, h9, hHH⟩
      simp at h7 h8 h9 hHH
      simp [h7, h8, h9, hHH]
      rw [List.take_length] at hrow
      exact hrow)
  obtain ⟨rfl, hrow, hHH⟩ := hx
  rcases hrow with ⟨rfl, h3⟩ | ⟨hne, kk, h3, hkk⟩
  · simp [h3, hHH, hH, ← hr, rowF, dig]
  · simp [h3, hHH, hH, hkk, ← hr, rowF, hne]

theorem Trim_call {wl : Nat} (f : Bool) (l : List Nat) (hl : l.length < 100000000000) (hd : ∀ d ∈ l, d ≤ 4294967295) (H : Heap) (hH : 0 < H.length) (hb : ∀ d ∈ normD l, d ≤ 4294967295) (hb2 : (normD l).length < 1000000000000) :
    E.call 134 wl [.lst f (dig l)] H = some (.ret (.lst (rowF (normD l)) (dig (normD l))), H) := by
  refine (E_call Try.func134 rfl rfl (by kernel_rfl) rfl _ (by exact Nat.le_of_ble_eq_true rfl) H).trans ?_
  have hc := fun L1 : List Blk => of_nat_call (wl := wl) f l hl hd (L1 :: H) (by simp)
  rw [← normD] at hc
  have hc2 := fun L1 : List Blk => row_call (wl := wl) false (normD l) hb2 hb (L1 :: H) (by simp)
  simp [Try.f134, hc, hc2, hH]

theorem zero_call {wl : Nat} (f : Bool) (l : List Nat) (H : Heap) (hH : 0 < H.length) :
    E.call 107 wl [.agg [.lst f (dig l)]] H = some (.ret (.bool (decide (l = []))), H) := by
  refine (E_call Try.func107 rfl rfl (by kernel_rfl) rfl _ (by exact Nat.le_of_ble_eq_true rfl) H).trans ?_
  cases l with
  | nil => simp [Try.f107, hH, dig]
  | cons a l =>
    have hne : ((l.length : Int) + 1 == 0) = false := by rw [beq_eq_false_iff_ne]; omega
    simp [Try.f107, hH, hne]

theorem made_call {wl : Nat} (f : Bool) (l : List Nat) (g : Bool) (hl : l.length < 100000000000) (hd : ∀ d ∈ l, d ≤ 4294967295) (H : Heap) (hH : 0 < H.length) (hb : ∀ d ∈ normD l, d ≤ 4294967295) (hb2 : (normD l).length < 1000000000000) :
    E.call 103 wl [.lst f (dig l), .bool g] H = some (.ret (.agg [.lst (rowF (normD l)) (dig (normD l)), .bool (g && !decide (normD l = []))]), H) := by
  refine (E_call Try.func103 rfl rfl (by kernel_rfl) rfl _ (by exact Nat.le_of_ble_eq_true rfl) H).trans ?_
  have hc := fun L1 : List Blk => Trim_call (wl := wl) f l hl hd (L1 :: H) (by simp) hb hb2
  have hc2 := fun (w2 : Nat) (L1 : List Blk) => zero_call (wl := w2) (rowF (normD l)) (normD l) (L1 :: H) (by simp)
  cases g with
  | true => simp [Try.f103, hc, hc2, hH]
  | false => simp [Try.f103, hc, hc2, hH]

theorem out_call {wl : Nat} (f : Bool) (l : List Nat) (g : Bool) (H : Heap) (hH : 0 < H.length) :
    E.call 56 wl [.agg [.lst f (dig l), .bool g]] H = some (.ret (.agg [.bool g, .lst f (dig l)]), H) := by
  refine (E_call Try.func56 rfl rfl (by kernel_rfl) rfl _ (by exact Nat.le_of_ble_eq_true rfl) H).trans ?_
  simp [Try.f56, hH]

/-- The digits of a number. -/
def digsN (n : Nat) : List Nat := normD (carryD n [])

theorem carryD_mod : ∀ (c : Nat), ∀ d ∈ carryD c [], d < B9 := fun c => by
  induction c using Nat.strongRecOn with
  | _ c ih =>
    rcases Nat.eq_zero_or_pos c with rfl | h
    · simp [carryD]
    · rw [carryD_nil h]
      intro d hd
      rcases List.mem_cons.1 hd with rfl | hd
      · exact Nat.mod_lt _ (by decide)
      · exact ih _ (Nat.div_lt_self h (by decide)) d hd

theorem small_call {wl : Nat} (n : Nat) (g : Bool) (hn : n < 18446744073709551616) (H : Heap) (hH : 0 < H.length) (hb : ∀ d ∈ digsN n, d ≤ 4294967295) (hb2 : (digsN n).length < 1000000000000) :
    E.call 57 wl [.int .u64 n, .bool g] H = some (.ret (.agg [.lst (rowF (digsN n)) (dig (digsN n)), .bool (g && !decide (digsN n = []))]), H) := by
  refine (E_call Try.func57 rfl rfl (by kernel_rfl) rfl _ (by exact Nat.le_of_ble_eq_true rfl) H).trans ?_
  have hl3 := carryD_length0 (c := n) (by omega)
  have hc := fun (f : Bool) (L1 : List Blk) => made_call (wl := wl) f (carryD n []) g (by omega) (fun d hd => by have : d < 1000000000 := carryD_mod n d hd; omega) (L1 :: H) (by simp) hb hb2
  rw [← digsN] at hc
  obtain ⟨r, hr⟩ : ∃ r, PV.agg [.lst (rowF (digsN n)) (dig (digsN n)), .bool (g && !decide (digsN n = []))] = r := ⟨_, rfl⟩
  rw [hr] at hc ⊢
  simp [Try.f57]
  generalize hz : run tab E wl (Code.loop _) _ = z
  obtain ⟨x, s', rfl, hx⟩ := loop_up (fun c s => E_loop) hz (carryD n []).length (fun i st => ∃ l1 c b0, l1.length = i ∧ carryD n [] = l1 ++ carryD c [] ∧ c ≤ n ∧ st.env 0 = .int .u64 c ∧ st.env 1 = .bool g ∧ st.env 4 = .ptr H.length 0 0 ∧ RowD H.length st (st.env 5) l1 ∧ st.H = H ∧ st.L[0]? = some (.box b0) ∧ b0.length = 2)
    (fun x st => ∃ b0, x = .exit 0 ∧ st.env 1 = .bool g ∧ st.env 4 = .ptr H.length 0 0 ∧ RowD H.length st (st.env 5) (carryD n []) ∧ st.H = H ∧ st.L[0]? = some (.box b0) ∧ b0.length = 2)
    ⟨[], n, _, rfl, rfl, Nat.le_refl _, by simp, by simp, by simp, .inl ⟨rfl, by simp⟩, by simp, by simp; rfl, rfl⟩ (by
      rintro i ⟨e, L, H'⟩ hi ⟨l1, c, b0, hl1, hca, hcn, h0, h1, h4, hrow, hHH, hL0, hb0⟩
      simp only [] at h0 h1 h4 hHH hL0
      subst hHH
      have hpos : 0 < c := by
        rcases Nat.eq_zero_or_pos c with rfl | h
        · rw [hca] at hi; simp [carryD, hl1] at hi
        · exact h
      rw [carryD_nil hpos] at hca
      obtain ⟨y, hy⟩ : ∃ y, c % B9 = y := ⟨_, rfl⟩
      obtain ⟨q, hq⟩ : ∃ q, c / B9 = q := ⟨_, rfl⟩
      have hq2 : q ≤ c := by rw [← hq]; exact Nat.div_le_self _ _
      have hy2 : y < 1000000000 := by rw [← hy]; exact Nat.mod_lt _ (by decide)
      rw [hy, hq] at hca
      have hrem : Int.tmod (c : Int) 1000000000 = (y : Int) := by rw [tmodN, hy]
      have hquo : Int.tdiv (c : Int) 1000000000 = (q : Int) := by rw [tdivN, hq]
      have hwq := u64w (n := (q : Int)) (by omega) (by omega)
      have hwy := u32w (n := (y : Int)) (by omega) (by omega)
      have hfin : carryD n [] = (l1 ++ [y]) ++ carryD q [] := by rw [hca]; simp
      rcases hrow with ⟨rfl, h5⟩ | ⟨hne, kk, h5, hkk⟩
      · simp at h5 hl1
        subst hl1
        simp [-getElem?_pos, h0, h1, h4, h5, hpos, hrem, hquo, hwq, hwy, lim]
        exact ⟨[y], rfl, q, hfin, by omega, rfl, .inr ⟨by simp, L.length + 1, by simp, by simp [dig]⟩, b0, app_old hL0, hb0⟩
      · simp at h5 hkk
        have hkl := (List.getElem?_eq_some_iff.1 hkk).1
        have hk0 : kk ≠ 0 := by
          rintro rfl
          rw [hkk] at hL0
          cases hL0
        have hlm : (i + 1) * 4 ≤ lim := by unfold lim; omega
        simp [-getElem?_pos, h0, h1, h4, h5, hpos, hrem, hquo, hwq, hwy, app_old hkk, hlm, hl1]
        refine ⟨l1 ++ [y], by simp [hl1], q, hfin, by omega, rfl, .inr ⟨by simp, kk, by simp [hl1], ?_⟩, b0, by rw [List.getElem?_set_ne hk0]; exact app_old hL0, hb0⟩
        simp only []
        rw [List.getElem?_set_self (by simp; omega)]
        simp [dig]) (by
      rintro ⟨e, L, H'⟩ ⟨l1, c, b0, hl1, hca, hcn, h0, h1, h4, hrow, hHH, hL0, hb0⟩
      simp only [] at h0 h1 h4 hHH hL0
      have hnil : carryD c [] = [] := by
        have := congrArg List.length hca
        rw [List.length_append, hl1] at this
        exact List.eq_nil_of_length_eq_zero (by omega)
      have hc0 : c = 0 := by
        rcases Nat.eq_zero_or_pos c with h | h
        · exact h
        · rw [carryD_nil h] at hnil; cases hnil
      rw [hnil, List.append_nil] at hca
      subst hc0
      rw [← hca] at hrow
      simp [h0, h1, h4, hHH]
      exact ⟨hrow, b0, hL0, hb0⟩)
  obtain ⟨b0, rfl, h1, h4, hrow, hHH, hL0, hb0⟩ := hx
  obtain ⟨a0, a1, rfl⟩ : ∃ a0 a1, b0 = [a0, a1] := by
    match b0, hb0 with
    | [a0, a1], _ => exact ⟨a0, a1, rfl⟩
  subst hr
  have h0s : ∀ b, (s'.L.set 0 b)[0]? = some b := fun b => List.getElem?_set_self (List.getElem?_eq_some_iff.1 hL0).1
  rcases hrow with ⟨hnil, h5⟩ | ⟨hne, kk, h5, hkk⟩
  · rw [hnil] at hc
    rw [show dig [] = [] from rfl] at hc
    simp [-getElem?_pos, h1, h4, h5, hHH, hL0, hH, hc, h0s]
  · have hk0 : kk ≠ 0 := by
      rintro rfl
      rw [hkk] at hL0
      cases hL0
    have h0t : ∀ b c, ((s'.L.set kk c).set 0 b)[0]? = some b := fun b c => List.getElem?_set_self (by simpa using (List.getElem?_eq_some_iff.1 hL0).1)
    have h0u : ∀ c, (s'.L.set kk c)[0]? = some (.box [a0, a1]) := fun c => by rw [List.getElem?_set_ne hk0]; exact hL0
    simp [-getElem?_pos, h1, h4, h5, hHH, hL0, hH, hc, h0s, h0t, h0u, hkk]

def intOf (n : Int) : PV := .agg [.bool (decide (n < 0) && !decide (digsN n.natAbs = [])), .lst (rowF (digsN n.natAbs)) (dig (digsN n.natAbs))]

theorem Of_call {wl : Nat} (n : Int) (hn : -9223372036854775808 ≤ n ∧ n ≤ 9223372036854775807) (H : Heap) (hH : 0 < H.length) (hb : ∀ d ∈ digsN n.natAbs, d ≤ 4294967295) (hb2 : (digsN n.natAbs).length < 1000000000000) :
    E.call 19 wl [.int .i64 n] H = some (.ret (intOf n), H) := by
  refine (E_call Try.func19 rfl rfl (by kernel_rfl) rfl _ (by exact Nat.le_of_ble_eq_true rfl) H).trans ?_
  have hc := fun (g : Bool) (L1 : List Blk) => small_call (wl := wl) n.natAbs g (by omega) (L1 :: H) (by simp) hb hb2
  have hc2 := fun (g : Bool) (L1 : List Blk) => out_call (wl := wl) (rowF (digsN n.natAbs)) (digsN n.natAbs) g (L1 :: H) (by simp)
  rcases Int.lt_or_le n 0 with h | h
  · have h1 : IntKind.u64.wrap n = n + 18446744073709551616 := by rw [wrap_u64]; omega
    have h2 : IntKind.u64.wrap (-(n + 18446744073709551616)) = (n.natAbs : Int) := by rw [wrap_u64]; omega
    simp [Try.f19, h, h1, h2, hc, hc2, hH, intOf]
    done
  · have h1 : IntKind.u64.wrap n = (n.natAbs : Int) := by rw [wrap_u64]; omega
    have h3 : ¬ n < 0 := by omega
    simp [Try.f19, h3, h1, hc, hc2, hH, intOf]
    done
end Go.GL.Seat
