/-
  Walks, yA: sums and differences of numbers (package nat).
  Walks, yB: comparing, differences (package nat).
  Walks, yC: products (package nat).
-/
import Derived.Test.YtafgloejojikoaaMGl43
import Derived.Test.YtafgloejojikoaaMGl39
set_option linter.unusedSimpArgs false
set_option linter.unusedVariables false
/-! Walks, yA: sums and differences of numbers (package nat). -/
namespace Go.GL.Seat
open Go.Proofs
set_option maxRecDepth 100000
set_option maxHeartbeats 8000000

/-- A number of package nat, by value. -/
def natP (f : Bool) (n : Nat) : PV := .agg [.lst f (dig64 (digsOf n))]

theorem at_call' {wl : Nat} (f : Bool) (l : List Nat) (k : Int) (H : Heap) (hH : 0 < H.length) (hk : 0 ≤ k) :
    E.call 152 wl [.lst f (dig64 l), .int .i64 k] H = some (.ret (.int .u64 (l[k.toNat]?.getD 0 : Nat)), H) := by
  have := at_call (wl := wl) f l k.toNat H hH
  rwa [Int.toNat_of_nonneg hk] at this

theorem carried_val {wl : Nat} (f : Bool) (l : List Nat) (hl : l.length < 100000000000) (hd : ∀ d ∈ l, d ≤ 4611686018427387904) (H : Heap) (hH : 0 < H.length) :
    E.call 153 wl [.lst f (dig64 l)] H = some (.ret (natP false (valD l)), H) := by
  have := carried_call (wl := wl) f l hl hd H hH
  rw [normD_carry, Nat.zero_add] at this
  exact this

theorem of_nat_val {wl : Nat} (f : Bool) (l : List Nat) (hl : l.length < 100000000000) (hd : ∀ d ∈ l, d ≤ 4294967295) (H : Heap) (hH : 0 < H.length) :
    E.call 138 wl [.lst f (dig l)] H = some (.ret (natP false (valD l)), H) := by
  have := of_nat_call (wl := wl) f l hl hd H hH
  rw [normD_carry, Nat.zero_add] at this
  exact this

theorem getD_lt {l : List Nat} {M : Nat} (h : ∀ d ∈ l, d < M) (hM : 0 < M) (i : Nat) : l[i]?.getD 0 < M := by
  cases hx : l[i]? with
  | none => simpa using hM
  | some d => exact h d (List.mem_of_getElem? hx)

theorem set_frame {L : List Blk} {k j : Nat} {b c : Blk} (h : L[j]? = some b) (hne : k ≠ j) : (L.set k c)[j]? = some b := by rw [List.getElem?_set_ne hne]; exact h

theorem max_pv (a b : Int) : (if a < b then b else a) = max a b := by split <;> omega

/-- One digit more of a row that is filled. -/
theorem fill_step {s : List Nat} {n i : Nat} {x : Nat} (hl : s.length = n) (hx : s[i]? = some x) :
    (dig64 (s.take i ++ List.replicate (n - i) 0)).set i (.int .u64 x) = dig64 (s.take (i + 1) ++ List.replicate (n - (i + 1)) 0) := by
  have hi := (List.getElem?_eq_some_iff.1 hx).1
  have hr1 : List.replicate (n - i) (0 : Nat) = 0 :: List.replicate (n - (i + 1)) 0 := by rw [← List.replicate_succ]; congr 1; omega
  rw [hr1, List.take_add_one, hx]
  simp [dig64, List.set_append, Nat.min_eq_left (Nat.le_of_lt hi)]

theorem natplus_call {wl : Nat} (f g : Bool) (a b : Nat) (ha : (digsOf a).length < 1000000000) (hb : (digsOf b).length < 1000000000) (H : Heap) (hw : wl ≤ H.length) (hH : 0 < H.length) :
    E.call 136 wl [natP f a, natP g b] H = some (.ret (natP false (a + b)), H) := by
  refine (E_call Try.func136 rfl rfl (by kernel_rfl) rfl _ (by exact Nat.le_of_ble_eq_true rfl) H).trans ?_
  obtain ⟨A, hA⟩ : ∃ A, digsOf a = A := ⟨_, rfl⟩
  obtain ⟨B, hB⟩ : ∃ B, digsOf b = B := ⟨_, rfl⟩
  have hA1 : ∀ d ∈ A, d < B9 := hA ▸ digsOf_lt a
  have hB1 : ∀ d ∈ B, d < B9 := hB ▸ digsOf_lt b
  rw [hA] at ha
  rw [hB] at hb
  obtain ⟨s, hs⟩ : ∃ s, addL A B = s := ⟨_, rfl⟩
  have hsl : s.length = max A.length B.length := by rw [← hs, addL_length]
  obtain ⟨n, hn⟩ : ∃ n, max A.length B.length = n := ⟨_, rfl⟩
  rw [hn] at hsl
  have hnb : n < 1000000000 := by omega
  have hsv : valD s = a + b := by rw [← hs, addL_val, ← hA, ← hB, valD_digsOf, valD_digsOf]
  have hsg : ∀ i, i < n → s[i]? = some (A[i]?.getD 0 + B[i]?.getD 0) := fun i hi => by rw [← hs]; exact addL_get A B i (by omega)
  have hsd : ∀ d ∈ s, d ≤ 4611686018427387904 := by
    intro d hd
    obtain ⟨i, hi⟩ := List.getElem?_of_mem hd
    have hil := (List.getElem?_eq_some_iff.1 hi).1
    rw [hsg i (by omega)] at hi
    injection hi with hi
    have h1 := getD_lt hA1 (by decide) i
    have h2 := getD_lt hB1 (by decide) i
    have h3 : B9 = 1000000000 := rfl
    omega
  have hc := fun (fl : Bool) (L1 : List Blk) => carried_val (wl := wl) fl s (by omega) hsd (L1 :: H) (by simp)
  rw [hsv] at hc
  have hlm : (n : Int) * 8 ≤ (lim : Int) := by unfold lim; omega
  have hmx2 : (if A.length < B.length then (B.length : Int) else A.length) = (n : Int) := by split <;> omega
  have hnn : (n : Int).toNat = n := by omega
  simp [Try.f136, natP, hA, hB, hmx2, hlm]
  generalize hz : run tab E wl (Code.loop _) _ = z
  obtain ⟨x, s', rfl, hx⟩ := loop_up (fun c s => E_loop) hz n (fun i st => ∃ b2, st.env 2 = .ptr H.length 0 0 ∧ st.env 3 = .ptr H.length 1 0 ∧ st.env 4 = .ptr H.length 2 0 ∧ st.env 5 = .own H.length 3 n 1 ∧ st.env 16 = .int .i64 n ∧ st.env 17 = .int .i64 i ∧ st.H = H ∧
      st.L[0]? = some (.box [.lst f (dig64 A)]) ∧ st.L[1]? = some (.box [.lst g (dig64 B)]) ∧ st.L[2]? = some (.box [b2]) ∧ st.L[3]? = some (.arr true 1 (dig64 (s.take i ++ List.replicate (n - i) 0))))
    (fun x st => x = .exit 0 ∧ ∃ b2, st.env 4 = .ptr H.length 2 0 ∧ st.env 5 = .own H.length 3 n 1 ∧ st.H = H ∧ st.L[2]? = some (.box [b2]) ∧ st.L[3]? = some (.arr true 1 (dig64 s)))
    ⟨_, by simp, by simp, by simp, by simp, by simp, by simp, by simp, by simp, by simp, by simp; rfl, by simp [dig64]⟩ (by
      rintro i ⟨e, L, H'⟩ hi ⟨b2, h2, h3, h4, h5, h16, h17, hHH, hL0, hL1, hL2, hL3⟩
      simp only [] at h2 h3 h4 h5 h16 h17 hHH hL0 hL1 hL2 hL3
      subst hHH
      have hw2 := i64w (n := (i : Int) + 1) (by omega) (by omega)
      have hcA := fun (w2 : Nat) (L1 : List Blk) => at_call (wl := w2) f A i (L1 :: H') (by simp)
      have hcB := fun (w2 : Nat) (L1 : List Blk) => at_call (wl := w2) g B i (L1 :: H') (by simp)
      obtain ⟨x, hx⟩ : ∃ x, A[i]?.getD 0 = x := ⟨_, rfl⟩
      obtain ⟨y, hy⟩ : ∃ y, B[i]?.getD 0 = y := ⟨_, rfl⟩
      have hx1 := getD_lt hA1 (by decide) i
      have hy1 := getD_lt hB1 (by decide) i
      have hsi := hsg i hi
      have hB9 : B9 = 1000000000 := rfl
      rw [hx] at hcA hx1 hsi
      rw [hy] at hcB hy1 hsi
      obtain ⟨z, hz⟩ : ∃ z, x + y = z := ⟨_, rfl⟩
      have hwz : IntKind.u64.wrap ((x : Int) + y) = (z : Int) := by rw [u64w (by omega) (by omega)]; omega
      rw [hz] at hsi
      have hfs := fill_step hsl hsi
      obtain ⟨xs, hxs⟩ : ∃ xs, dig64 (s.take i ++ List.replicate (n - i) 0) = xs := ⟨_, rfl⟩
      have hxl : xs.length = n := by rw [← hxs]; simp; omega
      rw [hxs] at hL3 hfs
      have hLl := (List.getElem?_eq_some_iff.1 hL3).1
      have hin : i < n := hi
      simp [-getElem?_pos, h2, h3, h4, h5, h16, h17, hcA, hcB, hi, hin, hw2, hwz, hL0, hL1, hL2, hL3, app_old hL0, app_old hL1, app_old hL2, app_old hL3, hxl, hfs]
      ) (by
      rintro ⟨e, L, H'⟩ ⟨b2, h2, h3, h4, h5, h16, h17, hHH, hL0, hL1, hL2, hL3⟩
      simp only [] at h2 h3 h4 h5 h16 h17 hHH hL0 hL1 hL2 hL3
      have : s.take n ++ List.replicate (n - n) 0 = s := by rw [Nat.sub_self]; simp [← hsl]
      rw [this] at hL3
      simp [h2, h3, h4, h5, h16, h17, hHH, hL2]
      exact hL3)
  obtain ⟨rfl, b2, h4, h5, hHH, hL2, hL3⟩ := hx
  have q1 : (s'.L.set 3 (.arr false 1 (dig64 s)))[2]? = some (.box [b2]) := set_frame hL2 (by omega)
  have q2 : ∀ b, ((s'.L.set 3 (.arr false 1 (dig64 s))).set 2 b)[2]? = some b := fun b => List.getElem?_set_self (List.getElem?_eq_some_iff.1 q1).1
  simp only [natP] at hc
  simp [-getElem?_pos, h4, h5, hHH, hL2, hL3, hH, hc, q1, q2, hsl]
end Go.GL.Seat

/-! Walks, yB: comparing, differences (package nat). -/
namespace Go.GL.Seat
open Go.Proofs
set_option maxRecDepth 100000
set_option maxHeartbeats 8000000

def cmp3 (a b : Int) : Int := if a < b then -1 else if b < a then 1 else 0
theorem cmp3_lt {a b : Int} (h : a < b) : cmp3 a b = -1 := if_pos h
theorem cmp3_gt {a b : Int} (h : b < a) : cmp3 a b = 1 := by unfold cmp3; rw [if_neg (by omega), if_pos h]
theorem cmp3_eq (a : Int) : cmp3 a a = 0 := by unfold cmp3; rw [if_neg (by omega), if_neg (by omega)]

theorem cmpI_call {wl : Nat} (a b : Int) (H : Heap) (hH : 0 < H.length) : E.call 154 wl [.int .i64 a, .int .i64 b] H = some (.ret (.int .i64 (cmp3 a b)), H) := by
  refine (E_call Try.func154 rfl rfl (by kernel_rfl) rfl _ (by exact Nat.le_of_ble_eq_true rfl) H).trans ?_
  have hc : ∀ (x : Int) (L1 : List Blk), E.call 162 wl [.int .i64 x] (L1 :: H) = some (.ret (.bool false), L1 :: H) := by
    intro x L1
    refine (E_call Try.func162 rfl rfl (by kernel_rfl) rfl _ (by exact Nat.le_of_ble_eq_true rfl) (L1 :: H)).trans ?_
    simp [Try.f162]
  rcases Int.lt_trichotomy a b with h | h | h
  · simp [Try.f154, hc, h, cmp3, hH]
  · subst h; simp [Try.f154, hc, cmp3, hH]
  · have h2 : ¬ a < b := by omega
    simp [Try.f154, hc, h, h2, cmp3, hH]
theorem cmpU_call {wl : Nat} (a b : Int) (H : Heap) (hH : 0 < H.length) : E.call 155 wl [.int .u64 a, .int .u64 b] H = some (.ret (.int .i64 (cmp3 a b)), H) := by
  refine (E_call Try.func155 rfl rfl (by kernel_rfl) rfl _ (by exact Nat.le_of_ble_eq_true rfl) H).trans ?_
  have hc : ∀ (x : Int) (L1 : List Blk), E.call 163 wl [.int .u64 x] (L1 :: H) = some (.ret (.bool false), L1 :: H) := by
    intro x L1
    refine (E_call Try.func163 rfl rfl (by kernel_rfl) rfl _ (by exact Nat.le_of_ble_eq_true rfl) (L1 :: H)).trans ?_
    simp [Try.f163]
  rcases Int.lt_trichotomy a b with h | h | h
  · simp [Try.f155, hc, h, cmp3, hH]
  · subst h; simp [Try.f155, hc, cmp3, hH]
  · have h2 : ¬ a < b := by omega
    simp [Try.f155, hc, h, h2, cmp3, hH]

theorem natcmp_call {wl : Nat} (f g : Bool) (a b : Nat) (ha : (digsOf a).length < 1000000000) (hb : (digsOf b).length < 1000000000) (H : Heap) (hH : 0 < H.length) :
    E.call 139 wl [natP f a, natP g b] H = some (.ret (.int .i64 (cmp3 a b)), H) := by
  refine (E_call Try.func139 rfl rfl (by kernel_rfl) rfl _ (by exact Nat.le_of_ble_eq_true rfl) H).trans ?_
  obtain ⟨A, hA⟩ : ∃ A, digsOf a = A := ⟨_, rfl⟩
  obtain ⟨B, hB⟩ : ∃ B, digsOf b = B := ⟨_, rfl⟩
  have hA1 : ∀ d ∈ A, d < B9 := hA ▸ digsOf_lt a
  have hB1 : ∀ d ∈ B, d < B9 := hB ▸ digsOf_lt b
  have hAv : valD A = a := by rw [← hA, valD_digsOf]
  have hBv : valD B = b := by rw [← hB, valD_digsOf]
  rw [hA] at ha
  rw [hB] at hb
  have hc := fun (L1 : List Blk) => cmpI_call (wl := wl) A.length B.length (L1 :: H) (by simp)
  have hw1 := i64w (n := (A.length : Int) - 1) (by omega) (by omega)
  obtain ⟨r, hr⟩ : ∃ r, cmp3 (a : Int) b = r := ⟨_, rfl⟩
  rw [hr]
  by_cases hl : A.length = B.length
  case neg =>
    have hne : cmp3 (A.length : Int) B.length = r ∧ r ≠ 0 := by
      rcases Nat.lt_or_gt_of_ne hl with h | h
      · rw [cmp3_lt (by omega), ← hr, cmp3_lt (by have := cmp_len (a := a) (b := b) (by rw [hA, hB]; exact h); omega)]
        simp
      · rw [cmp3_gt (by omega), ← hr, cmp3_gt (by have := cmp_len (a := b) (b := a) (by rw [hA, hB]; exact h); omega)]
        simp
    rw [hne.1] at hc
    by_cases h1 : (1 : Int) ≤ A.length
    · simp [Try.f139, natP, hA, hB, hc, hw1, run_loop, hne.2, hH, h1]
    · simp [Try.f139, natP, hA, hB, hc, hw1, run_loop, hne.2, hH, h1]
  rw [← hl, cmp3_eq] at hc
  simp [Try.f139, natP, hA, hB, hc, hw1, ← hl]
  generalize hz : run tab E wl (Code.loop _) _ = z
  obtain ⟨x, s', rfl, hx⟩ := loop_up (fun c s => E_loop) hz A.length (fun i st => st.env 2 = .ptr H.length 0 0 ∧ st.env 3 = .ptr H.length 1 0 ∧ (∃ c, st.env 5 = .int .i64 c ∧ (c = 0 ∧ A.drop (A.length - i) = B.drop (A.length - i) ∨ c ≠ 0 ∧ c = r)) ∧ st.env 6 = .int .i64 ((A.length : Int) - 1 - i) ∧ st.H = H ∧
      st.L[0]? = some (.box [.lst f (dig64 A)]) ∧ st.L[1]? = some (.box [.lst g (dig64 B)]))
    (fun x st => x = .exit 0 ∧ st.env 5 = .int .i64 r ∧ st.H = H)
    ⟨by simp, by simp, ⟨0, by simp, .inl ⟨rfl, by simp [hl]⟩⟩, by simp, by simp, by simp, by simp⟩ (by
      rintro i ⟨e, L, H'⟩ hi ⟨h2, h3, ⟨c, h5, hcc⟩, h6, hHH, hL0, hL1⟩
      simp only [] at h2 h3 h5 h6 hHH hL0 hL1
      subst hHH
      obtain ⟨k, hk⟩ : ∃ k, A.length - 1 - i = k := ⟨_, rfl⟩
      have hk2 : (A.length : Int) - 1 - i = (k : Int) := by omega
      rw [hk2] at h6
      have hk3 : (A.length : Int) - 1 - ((i : Int) + 1) = (k : Int) - 1 := by omega
      have hkp : (0 : Int) ≤ k := by omega
      rcases hcc with ⟨rfl, hdr⟩ | ⟨hne, rfl⟩
      · have hcA := fun (w2 : Nat) (L1 : List Blk) => at_call (wl := w2) f A k (L1 :: H') (by simp)
        have hcB := fun (w2 : Nat) (L1 : List Blk) => at_call (wl := w2) g B k (L1 :: H') (by simp)
        obtain ⟨x, hx⟩ : ∃ x, A[k]? = some x := ⟨_, List.getElem?_eq_getElem (by omega)⟩
        obtain ⟨y, hy⟩ : ∃ y, B[k]? = some y := ⟨_, List.getElem?_eq_getElem (by omega)⟩
        rw [hx] at hcA
        rw [hy] at hcB
        simp only [Option.getD_some] at hcA hcB
        have hc3 := fun (w2 : Nat) (L1 : List Blk) => cmpU_call (wl := w2) x y (L1 :: H') (by simp)
        have hwk := i64w (n := (k : Int) - 1) (by omega) (by omega)
        have hdk : A.length - i = k + 1 := by omega
        rw [hdk] at hdr
        have hdk2 : A.length - (i + 1) = k := by omega
        have fin : (∃ c, cmp3 (x : Int) y = c ∧ (c = 0 ∧ A.drop (A.length - (i + 1)) = B.drop (A.length - (i + 1)) ∨ c ≠ 0 ∧ c = r)) := by
          refine ⟨_, rfl, ?_⟩
          rcases Nat.lt_trichotomy x y with h | h | h
          · rw [cmp3_lt (by omega)]
            refine .inr ⟨by simp, ?_⟩
            have := cmp_top hA1 hx hy hdr h
            rw [← hr, cmp3_lt (by omega)]
          · subst h
            rw [cmp3_eq]
            refine .inl ⟨rfl, ?_⟩
            obtain ⟨h1, e1⟩ := List.getElem?_eq_some_iff.1 hx
            obtain ⟨h2', e2⟩ := List.getElem?_eq_some_iff.1 hy
            rw [hdk2, List.drop_eq_getElem_cons h1, List.drop_eq_getElem_cons h2', e1, e2, hdr]
          · rw [cmp3_gt (by omega)]
            refine .inr ⟨by simp, ?_⟩
            have := cmp_top hB1 hy hx hdr.symm h
            rw [← hr, cmp3_gt (by omega)]
        simp [-getElem?_pos, h2, h3, h5, h6, hcA, hcB, hc3, hkp, hwk, hk3, hL0, hL1, app_old hL0, app_old hL1]
        simpa using fin
      · simp [-getElem?_pos, h2, h3, h5, h6, hne, hkp]) (by
      rintro ⟨e, L, H'⟩ ⟨h2, h3, ⟨c, h5, hcc⟩, h6, hHH, hL0, hL1⟩
      simp only [] at h2 h3 h5 h6 hHH hL0 hL1
      subst hHH
      have hm : (A.length : Int) - 1 - A.length = -1 := by omega
      rw [hm] at h6
      have : c = r := by
        rcases hcc with ⟨rfl, hdr⟩ | ⟨_, h⟩
        · rw [Nat.sub_self] at hdr
          simp only [List.drop_zero] at hdr
          subst hdr
          have : a = b := by rw [← hAv, ← hBv]
          subst this
          rw [← hr, cmp3_eq]
        · exact h
      subst this
      simp [-getElem?_pos, h2, h3, h5, h6])
  obtain ⟨rfl, h5, hHH⟩ := hx
  simp [h5, hHH, hH]

theorem natless_call {wl : Nat} (f g : Bool) (a b : Nat) (hab : b ≤ a) (ha : (digsOf a).length < 1000000000) (H : Heap) (hw : wl ≤ H.length) (hH : 0 < H.length) :
    E.call 140 wl [natP f a, natP g b] H = some (.ret (natP false (a - b)), H) := by
  refine (E_call Try.func140 rfl rfl (by kernel_rfl) rfl _ (by exact Nat.le_of_ble_eq_true rfl) H).trans ?_
  obtain ⟨A, hA⟩ : ∃ A, digsOf a = A := ⟨_, rfl⟩
  obtain ⟨B, hB⟩ : ∃ B, digsOf b = B := ⟨_, rfl⟩
  have hA1 : ∀ d ∈ A, d < B9 := hA ▸ digsOf_lt a
  have hB1 : ∀ d ∈ B, d < B9 := hB ▸ digsOf_lt b
  have hAv : valD A = a := by rw [← hA, valD_digsOf]
  have hBv : valD B = b := by rw [← hB, valD_digsOf]
  have hll : B.length ≤ A.length := by rw [← hA, ← hB]; exact digs_mono hab
  rw [hA] at ha
  obtain ⟨s, hs⟩ : ∃ s, subL 0 A B = s := ⟨_, rfl⟩
  obtain ⟨n, hn⟩ : ∃ n, A.length = n := ⟨_, rfl⟩
  rw [hn] at ha hll
  have hsl : s.length = n := by rw [← hs, subL_length, hn]
  have hsv : valD s = a - b := by
    have := subL_val 0 A B (by omega) hA1 hB1 (by omega) (by omega)
    rw [hs] at this
    omega
  have hsd : ∀ d ∈ s, d ≤ 4611686018427387904 := fun d hd => by
    have := subL_lt 0 A B d (by rw [hs]; exact hd)
    have h3 : B9 = 1000000000 := rfl
    omega
  have hc := fun (fl : Bool) (L1 : List Blk) => carried_val (wl := wl) fl s (by omega) hsd (L1 :: H) (by simp)
  rw [hsv] at hc
  have hlm : (n : Int) * 8 ≤ (lim : Int) := by unfold lim; omega
  simp [Try.f140, natP, hA, hB, hlm, hn]
  generalize hz : run tab E wl (Code.loop _) _ = z
  obtain ⟨x, s', rfl, hx⟩ := loop_up (fun c s => E_loop) hz n (fun i st => ∃ b2 c : _, st.env 2 = .ptr H.length 0 0 ∧ st.env 3 = .ptr H.length 1 0 ∧ st.env 4 = .ptr H.length 2 0 ∧ st.env 5 = .own H.length 3 n 1 ∧ st.env 6 = .int .u64 (c : Nat) ∧ c ≤ 1 ∧ s.drop i = subL c (A.drop i) (B.drop i) ∧ st.env 14 = .int .i64 n ∧ st.env 15 = .int .i64 i ∧ st.H = H ∧
      st.L[0]? = some (.box [.lst f (dig64 A)]) ∧ st.L[1]? = some (.box [.lst g (dig64 B)]) ∧ st.L[2]? = some (.box [b2]) ∧ st.L[3]? = some (.arr true 1 (dig64 (s.take i ++ List.replicate (n - i) 0))))
    (fun x st => x = .exit 0 ∧ ∃ b2, st.env 4 = .ptr H.length 2 0 ∧ st.env 5 = .own H.length 3 n 1 ∧ st.H = H ∧ st.L[2]? = some (.box [b2]) ∧ st.L[3]? = some (.arr true 1 (dig64 s)))
    ⟨_, 0, by simp, by simp, by simp, by simp, by simp, by omega, by simp [hs], by simp, by simp, by simp, by simp, by simp, by simp; rfl, by simp [dig64]⟩ (by
      rintro i ⟨e, L, H'⟩ hi ⟨b2, c, h2, h3, h4, h5, h6, hc1, hsc, h14, h15, hHH, hL0, hL1, hL2, hL3⟩
      simp only [] at h2 h3 h4 h5 h6 h14 h15 hHH hL0 hL1 hL2 hL3
      subst hHH
      have hw2 := i64w (n := (i : Int) + 1) (by omega) (by omega)
      have hcA := fun (w2 : Nat) (L1 : List Blk) => at_call (wl := w2) f A i (L1 :: H') (by simp)
      have hcB := fun (w2 : Nat) (L1 : List Blk) => at_call (wl := w2) g B i (L1 :: H') (by simp)
      obtain ⟨x, hx⟩ : ∃ x, A[i]? = some x := ⟨_, List.getElem?_eq_getElem (by omega)⟩
      obtain ⟨y, hy⟩ : ∃ y, B[i]?.getD 0 = y := ⟨_, rfl⟩
      have hx1 := hA1 x (List.mem_of_getElem? hx)
      have hy1 := getD_lt hB1 (by decide) i
      have hB9 : B9 = 1000000000 := rfl
      rw [hx] at hcA
      rw [hy] at hcB hy1
      simp only [Option.getD_some] at hcA
      obtain ⟨u, hu⟩ : ∃ u, x + B9 - y - c = u := ⟨_, rfl⟩
      obtain ⟨hAi, hAe⟩ := List.getElem?_eq_some_iff.1 hx
      have hBh : (B.drop i)[0]?.getD 0 = y := by rw [List.getElem?_drop, Nat.add_zero]; exact hy
      rw [List.drop_eq_getElem_cons hAi, hAe, subL, hBh, hu, List.tail_drop] at hsc
      have hsi : s[i]? = some (u % B9) := by
        have := congrArg (·[0]?) hsc
        simpa using this
      have hsc2 : s.drop (i + 1) = subL (1 - u / B9) (A.drop (i + 1)) (B.drop (i + 1)) := by
        have := congrArg List.tail hsc
        simpa using this
      obtain ⟨d, hd⟩ : ∃ d, u % B9 = d := ⟨_, rfl⟩
      obtain ⟨q, hq⟩ : ∃ q, u / B9 = q := ⟨_, rfl⟩
      have hq1 : q ≤ 1 := by rw [hB9] at hu hq; omega
      rw [hd] at hsi
      rw [hq] at hsc2
      have w1 : IntKind.u64.wrap ((x : Int) + 1000000000) = ((x + 1000000000 : Nat) : Int) := by rw [u64w (by omega) (by omega)]; omega
      have w2 : IntKind.u64.wrap (((x + 1000000000 : Nat) : Int) - y) = ((x + 1000000000 - y : Nat) : Int) := by rw [u64w (by omega) (by omega)]; omega
      have w3 : IntKind.u64.wrap (((x + 1000000000 - y : Nat) : Int) - c) = (u : Int) := by rw [u64w (by omega) (by omega)]; omega
      have w4 : Int.tmod (u : Int) 1000000000 = (d : Int) := by rw [tmodN, hd]
      have w5 : Int.tdiv (u : Int) 1000000000 = (q : Int) := by rw [tdivN, hq]
      have w6 : IntKind.u64.wrap (q : Int) = (q : Int) := u64w (by omega) (by omega)
      obtain ⟨c', hc'⟩ : ∃ c', 1 - q = c' := ⟨_, rfl⟩
      have w7 : IntKind.u64.wrap (1 - (q : Int)) = (c' : Int) := by rw [u64w (by omega) (by omega)]; omega
      rw [hc'] at hsc2
      have hfs := fill_step hsl hsi
      obtain ⟨xs, hxs⟩ : ∃ xs, dig64 (s.take i ++ List.replicate (n - i) 0) = xs := ⟨_, rfl⟩
      have hxl : xs.length = n := by rw [← hxs]; simp; omega
      rw [hxs] at hL3 hfs
      obtain ⟨X, hX⟩ : ∃ X, x + 1000000000 = X := ⟨_, rfl⟩
      rw [hX] at w1 w2 w3
      obtain ⟨Y, hY⟩ : ∃ Y, X - y = Y := ⟨_, rfl⟩
      rw [hY] at w2 w3
      have hLl := (List.getElem?_eq_some_iff.1 hL3).1
      have hin : i < n := hi
      simp [-getElem?_pos, h2, h3, h4, h5, h6, h14, h15, hcA, hcB, hi, hin, hw2, hL0, hL1, hL2, hL3, app_old hL0, app_old hL1, app_old hL2, app_old hL3, hxl, hfs, w1, w2, w3, w4, w5, w6, w7]
      exact ⟨b2, c', rfl, by omega, hsc2, rfl⟩) (by
      rintro ⟨e, L, H'⟩ ⟨b2, c, h2, h3, h4, h5, h6, hc1, hsc, h14, h15, hHH, hL0, hL1, hL2, hL3⟩
      simp only [] at h2 h3 h4 h5 h6 h14 h15 hHH hL0 hL1 hL2 hL3
      have : s.take n ++ List.replicate (n - n) 0 = s := by rw [Nat.sub_self]; simp [← hsl]
      rw [this] at hL3
      simp [h2, h3, h4, h5, h14, h15, hHH, hL2]
      exact hL3)
  obtain ⟨rfl, b2, h4, h5, hHH, hL2, hL3⟩ := hx
  have q1 : (s'.L.set 3 (.arr false 1 (dig64 s)))[2]? = some (.box [b2]) := set_frame hL2 (by omega)
  have q2 : ∀ b, ((s'.L.set 3 (.arr false 1 (dig64 s))).set 2 b)[2]? = some b := fun b => List.getElem?_set_self (List.getElem?_eq_some_iff.1 q1).1
  simp only [natP] at hc
  simp [-getElem?_pos, h4, h5, hHH, hL2, hL3, hH, hc, q1, q2, hsl]
end Go.GL.Seat

/-! Walks, yC: products (package nat). -/
namespace Go.GL.Seat
open Go.Proofs
set_option maxRecDepth 100000
set_option maxHeartbeats 8000000

theorem dig64_set (l : List Nat) (k v : Nat) : (dig64 l).set k (.int .u64 v) = dig64 (l.set k v) := by simp [dig64, List.map_set]

theorem nattimes_call {wl : Nat} (f g : Bool) (a b : Nat) (ha : (digsOf a).length < 1000000000) (hb : (digsOf b).length < 1000000000) (H : Heap) (hw : wl ≤ H.length) (hH : 0 < H.length) :
    E.call 160 wl [natP f a, natP g b] H = some (.ret (natP false (a * b)), H) := by
  refine (E_call Try.func160 rfl rfl (by kernel_rfl) rfl _ (by exact Nat.le_of_ble_eq_true rfl) H).trans ?_
  obtain ⟨A, hA⟩ : ∃ A, digsOf a = A := ⟨_, rfl⟩
  obtain ⟨B, hB⟩ : ∃ B, digsOf b = B := ⟨_, rfl⟩
  have hA1 : ∀ d ∈ A, d < B9 := hA ▸ digsOf_lt a
  have hB1 : ∀ d ∈ B, d < B9 := hB ▸ digsOf_lt b
  have hAv : valD A = a := by rw [← hA, valD_digsOf]
  have hBv : valD B = b := by rw [← hB, valD_digsOf]
  rw [hA] at ha
  rw [hB] at hb
  obtain ⟨N, hN⟩ : ∃ N, A.length + B.length + 1 = N := ⟨_, rfl⟩
  have hB9 : B9 = 1000000000 := rfl
  have hw0 : IntKind.i64.wrap ((A.length : Int) + B.length) = (A.length : Int) + B.length := i64w (by omega) (by omega)
  have hw1 : IntKind.i64.wrap ((A.length : Int) + B.length + 1) = (N : Int) := by rw [i64w (by omega) (by omega)]; omega
  have hlm : (N : Int) * 8 ≤ (lim : Int) := by unfold lim; omega
  simp [Try.f160, natP, hA, hB, hw0, hw1, hlm]
  generalize hz : run tab E wl (Code.loop _) _ = z
  obtain ⟨x, s', rfl, hx⟩ := loop_up (fun c s => E_loop) hz A.length (fun i st => ∃ b2 dl, st.env 2 = .ptr H.length 0 0 ∧ st.env 3 = .ptr H.length 1 0 ∧ st.env 4 = .ptr H.length 2 0 ∧ st.env 5 = .own H.length 3 N 1 ∧ st.env 20 = .lst f (dig64 A) ∧ st.env 21 = .int .i64 A.length ∧ st.env 22 = .int .i64 i ∧ st.H = H ∧
      st.L[0]? = some (.box [.lst f (dig64 A)]) ∧ st.L[1]? = some (.box [.lst g (dig64 B)]) ∧ st.L[2]? = some (.box [b2]) ∧ st.L[3]? = some (.arr true 1 (dig64 dl)) ∧ dl.length = N ∧ (∀ d ∈ dl, d < B9) ∧ valD dl = valD (A.take i) * b)
    (fun x st => x = .exit 0 ∧ ∃ b2 dl, st.env 4 = .ptr H.length 2 0 ∧ st.env 5 = .own H.length 3 N 1 ∧ st.H = H ∧ st.L[2]? = some (.box [b2]) ∧ st.L[3]? = some (.arr true 1 (dig64 dl)) ∧ dl.length = N ∧ (∀ d ∈ dl, d < B9) ∧ valD dl = a * b)
    ⟨_, List.replicate N 0, by simp, by simp, by simp, by simp, by simp, by simp, by simp, by simp, by simp, by simp, by simp; rfl, by simp [dig64], by simp, fun d hd => by rw [(List.mem_replicate.1 hd).2]; decide, by simp [valD_zeros, valD]⟩ (by
      rintro i ⟨e, L, H'⟩ hi ⟨b2, d0, h2, h3, h4, h5, h20, h21, h22, hHH, hL0, hL1, hL2, hL3, hdl, hdd, hdv⟩
      simp only [] at h2 h3 h4 h5 h20 h21 h22 hHH hL0 hL1 hL2 hL3
      subst hHH
      have hw2 := i64w (n := (i : Int) + 1) (by omega) (by omega)
      obtain ⟨x, hx⟩ : ∃ x, A[i]? = some x := ⟨_, List.getElem?_eq_getElem hi⟩
      have hx1 := hA1 x (List.mem_of_getElem? hx)
      have hV0 : valD d0 < B9 ^ (i + B.length) := by
        rw [hdv, Nat.pow_add]
        have h1 := valD_lt (A.take i) (fun d hd => hA1 d (List.mem_of_mem_take hd))
        have hl : (A.take i).length = i := by simp; omega
        rw [hl] at h1
        have h2 := valD_lt B hB1
        rw [hBv] at h2
        rcases Nat.eq_zero_or_pos b with h0 | h0
        · rw [h0, Nat.mul_zero]; exact Nat.mul_pos (Nat.pow_pos (by decide)) (Nat.pow_pos (by decide))
        · exact Nat.lt_of_lt_of_le (Nat.mul_lt_mul_of_pos_right h1 h0) (Nat.mul_le_mul_left _ (Nat.le_of_lt h2))
      have hvs : valD (A.take (i + 1)) * b = valD d0 + x * b * B9 ^ i := by
        rw [valD_take_succ, hx, hdv, Nat.add_mul]
        simp only [Option.getD_some]
        rw [Nat.mul_assoc, Nat.mul_comm (B9 ^ i), ← Nat.mul_assoc]
      simp [-getElem?_pos, h2, h3, h4, h5, h20, h21, h22, hi, hx]
      generalize hz2 : run tab E wl (Code.loop _) _ = z2
      obtain ⟨x2, s2, rfl, hx2⟩ := loop_up (fun c s => E_loop) hz2 (B.length + 1) (fun k st => ∃ dl c, st.env 2 = .ptr H'.length 0 0 ∧ st.env 3 = .ptr H'.length 1 0 ∧ st.env 4 = .ptr H'.length 2 0 ∧ st.env 5 = .own H'.length 3 N 1 ∧ st.env 6 = .int .i64 i ∧ st.env 7 = .int .u64 x ∧ st.env 8 = .int .u64 (c : Nat) ∧ st.env 9 = .int .i64 k ∧ st.env 20 = .lst f (dig64 A) ∧ st.env 21 = .int .i64 A.length ∧ st.env 22 = .int .i64 i ∧ st.H = H' ∧
          st.L[0]? = some (.box [.lst f (dig64 A)]) ∧ st.L[1]? = some (.box [.lst g (dig64 B)]) ∧ st.L[2]? = some (.box [b2]) ∧ st.L[3]? = some (.arr true 1 (dig64 dl)) ∧ dl.length = N ∧ (∀ d ∈ dl, d < B9) ∧ c < B9 ∧ dl.drop (i + k) = d0.drop (i + k) ∧ valD dl + c * B9 ^ (i + k) = valD d0 + x * valD (B.take k) * B9 ^ i ∧ (k = B.length + 1 → c = 0))
        (fun x2 st => x2 = .exit 2 ∧ ∃ dl, st.env 2 = .ptr H'.length 0 0 ∧ st.env 3 = .ptr H'.length 1 0 ∧ st.env 4 = .ptr H'.length 2 0 ∧ st.env 5 = .own H'.length 3 N 1 ∧ st.env 20 = .lst f (dig64 A) ∧ st.env 21 = .int .i64 A.length ∧ st.env 22 = .int .i64 i ∧ st.H = H' ∧
          st.L[0]? = some (.box [.lst f (dig64 A)]) ∧ st.L[1]? = some (.box [.lst g (dig64 B)]) ∧ st.L[2]? = some (.box [b2]) ∧ st.L[3]? = some (.arr true 1 (dig64 dl)) ∧ dl.length = N ∧ (∀ d ∈ dl, d < B9) ∧ valD dl = valD d0 + x * b * B9 ^ i)
        ⟨d0, 0, by simp [h2], by simp [h3], by simp [h4], by simp [h5], by simp, by simp, by simp, by simp, by simp [h20], by simp [h21], by simp [h22], by simp, hL0, hL1, hL2, hL3, hdl, hdd, by decide, rfl, by simp [valD], by omega⟩ (by
          rintro k ⟨e, L, H⟩ hk ⟨dl, c, h2, h3, h4, h5, h6, h7, h8, h9, h20, h21, h22, hHH, hL0, hL1, hL2, hL3, hdl, hdd, hcb, hdr, hv, _⟩
          simp only [] at h2 h3 h4 h5 h6 h7 h8 h9 h20 h21 h22 hHH hL0 hL1 hL2 hL3
          subst hHH
          have hcB := fun (w2 : Nat) (L1 : List Blk) => at_call (wl := w2) g B k (L1 :: H) (by simp)
          obtain ⟨m, hm⟩ : ∃ m, B[k]?.getD 0 = m := ⟨_, rfl⟩
          rw [hm] at hcB
          have hm1 : m < B9 := by rw [← hm]; exact getD_lt hB1 (by decide) k
          obtain ⟨d, hd⟩ : ∃ d, dl[i + k]? = some d := ⟨_, List.getElem?_eq_getElem (by omega)⟩
          have hd1 := hdd d (List.mem_of_getElem? hd)
          have hbn := mul_bound hcb hd1 hx1 hm1
          have hst := mul_step hd hm hv
          have hset := dig64_set dl (i + k) ((c + (d + x * m)) % B9)
          have hdr2 : ∀ v, (dl.set (i + k) v).drop (i + (k + 1)) = d0.drop (i + (k + 1)) := fun v => by
            rw [List.drop_set_of_lt (by omega)]
            have := congrArg (List.drop 1) hdr
            rwa [List.drop_drop, List.drop_drop, Nat.add_assoc] at this
          have hset2 : ∀ v, v < B9 → ∀ d ∈ dl.set (i + k) v, d < B9 := fun v hv d hd => by
            rcases List.mem_or_eq_of_mem_set hd with h | rfl
            · exact hdd d h
            · exact hv
          have hwi : IntKind.i64.wrap ((i : Int) + k) = ((i + k : Nat) : Int) := by rw [i64w (by omega) (by omega)]; omega
          have hwk := i64w (n := (k : Int) + 1) (by omega) (by omega)
          have hxm : x * m ≤ c + (d + x * m) := by omega
          have wm : IntKind.u64.wrap ((x : Int) * m) = ((x * m : Nat) : Int) := by rw [← Int.natCast_mul]; exact u64w (by omega) (by omega)
          obtain ⟨p, hp⟩ : ∃ p, x * m = p := ⟨_, rfl⟩
          rw [hp] at wm hbn hst hset
          have wd : IntKind.u64.wrap ((d : Int) + p) = ((d + p : Nat) : Int) := by rw [u64w (by omega) (by omega)]; omega
          obtain ⟨p2, hp2⟩ : ∃ p2, d + p = p2 := ⟨_, rfl⟩
          rw [hp2] at wd hbn hst hset
          have wc : IntKind.u64.wrap ((c : Int) + p2) = ((c + p2 : Nat) : Int) := by rw [u64w (by omega) (by omega)]; omega
          obtain ⟨s, hs⟩ : ∃ s, c + p2 = s := ⟨_, rfl⟩
          rw [hs] at wc hbn hst hset
          have hmod : s % B9 < B9 := Nat.mod_lt _ (by decide)
          obtain ⟨v, hv1⟩ : ∃ v, s % B9 = v := ⟨_, rfl⟩
          obtain ⟨q, hq1⟩ : ∃ q, s / B9 = q := ⟨_, rfl⟩
          have wr : Int.tmod (s : Int) 1000000000 = (v : Int) := by rw [tmodN, hv1]
          have wq : Int.tdiv (s : Int) 1000000000 = (q : Int) := by rw [tdivN, hq1]
          rw [hv1] at hst hset hmod
          rw [hq1] at hbn hst
          have wq2 : IntKind.u64.wrap (q : Int) = (q : Int) := u64w (by omega) (by omega)
          have hlast : k = B.length → q = 0 := by
            rintro rfl
            have hm0 : m = 0 := by rw [← hm]; simp
            have hd0 : d = 0 := by
              have : d0[i + B.length]? = some d := by
                have h1 := congrArg (·[0]?) hdr
                simp only [List.getElem?_drop, Nat.add_zero] at h1
                rw [← h1]; exact hd
              exact digit_zero this (Nat.le_refl _) hV0
            have : s = c := by
              rw [← hs, ← hp2, ← hp, hm0, hd0]; simp
            rw [← hq1, this]
            exact Nat.div_eq_of_lt hcb
          obtain ⟨j, hj⟩ : ∃ j, i + k = j := ⟨_, rfl⟩
          rw [hj] at hwi hset hd hst hset2 hdr2
          have hjl : j < dl.length := (List.getElem?_eq_some_iff.1 hd).1
          have hjN : j < N := by omega
          have hLl := (List.getElem?_eq_some_iff.1 hL3).1
          have fini : ∀ (L2 : List Blk), L2[3]? = some (.arr true 1 (dig64 (dl.set j v))) → ∃ dl2, L2[3]? = some (Blk.arr true 1 (dig64 dl2)) ∧ True := fun L2 h => ⟨_, h, trivial⟩
          rcases Nat.lt_or_ge k B.length with hkl | hkl
          · simp [-getElem?_pos, h2, h3, h4, h5, h6, h7, h8, h9, h20, h21, h22, hkl, hcB, hL0, hL1, hL2, hL3, app_old hL0, app_old hL1, app_old hL2, app_old hL3, hwi, wm, wd, wc, wr, wq, wq2, hd, hdl, hjN, hset, hwk]
            exact ⟨dl.set j v, q, rfl, rfl, by simpa using hdl, hset2 _ hmod, hbn.2, hdr2 _, hst, hlast⟩
          · have hkl' : ¬ k < B.length := by omega
            rcases Nat.eq_zero_or_pos c with hc0 | hc0
            · subst hc0
              have htk : B.take k = B := List.take_of_length_le hkl
              rw [htk, hBv] at hv
              simp [-getElem?_pos, h2, h3, h4, h5, h6, h7, h8, h9, h20, h21, h22, hkl', hL0, hL1, hL2, hL3]
              exact ⟨dl, rfl, hdl, hdd, by simpa using hv⟩
            · simp [-getElem?_pos, h2, h3, h4, h5, h6, h7, h8, h9, h20, h21, h22, hkl', hc0, hcB, hL0, hL1, hL2, hL3, app_old hL0, app_old hL1, app_old hL2, app_old hL3, hwi, wm, wd, wc, wr, wq, wq2, hd, hdl, hjN, hset, hwk]
              exact ⟨dl.set j v, q, rfl, rfl, by simpa using hdl, hset2 _ hmod, hbn.2, hdr2 _, hst, hlast⟩) (by
          rintro ⟨e, L, H⟩ ⟨dl, c, h2, h3, h4, h5, h6, h7, h8, h9, h20, h21, h22, hHH, hL0, hL1, hL2, hL3, hdl, hdd, hcb, hdr, hv, hc0⟩
          simp only [] at h2 h3 h4 h5 h6 h7 h8 h9 h20 h21 h22 hHH hL0 hL1 hL2 hL3
          have hc0 := hc0 rfl
          subst hc0
          have htk : B.take (B.length + 1) = B := List.take_of_length_le (by omega)
          rw [htk, hBv] at hv
          have hkl' : ¬ B.length + 1 < B.length := by omega
          have hkl2 : ¬ (B.length : Int) + 1 < B.length := by omega
          simp [-getElem?_pos, h2, h3, h4, h5, h6, h7, h8, h9, h20, h21, h22, hkl', hkl2, hL0, hL1, hL2, hL3, hHH]
          exact ⟨dl, rfl, hdl, hdd, by simpa using hv⟩)
      obtain ⟨rfl, dl, h2, h3, h4, h5, h20, h21, h22, hHH, hL0, hL1, hL2, hL3, hdl, hdd, hdv⟩ := hx2
      simp [-getElem?_pos, h2, h3, h4, h5, h20, h21, h22, hHH, hL0, hL1, hL2, hL3, hw2]
      exact ⟨dl, rfl, hdl, hdd, by rw [hvs]; exact hdv⟩) (by
      rintro ⟨e, L, H'⟩ ⟨b2, dl, h2, h3, h4, h5, h20, h21, h22, hHH, hL0, hL1, hL2, hL3, hdl, hdd, hdv⟩
      simp only [] at h2 h3 h4 h5 h20 h21 h22 hHH hL0 hL1 hL2 hL3
      rw [List.take_length, hAv] at hdv
      simp [-getElem?_pos, h2, h3, h4, h5, h20, h21, h22, hHH, hL0, hL1, hL2, hL3]
      exact ⟨dl, rfl, hdl, hdd, hdv⟩)
  obtain ⟨rfl, b2, dl, h4, h5, hHH, hL2, hL3, hdl, hdd, hdv⟩ := hx
  have hc := fun (fl : Bool) (L1 : List Blk) => carried_val (wl := wl) fl dl (by omega) (fun d hd => by have := hdd d hd; omega) (L1 :: H) (by simp)
  rw [hdv] at hc
  have q1 : (s'.L.set 3 (.arr false 1 (dig64 dl)))[2]? = some (.box [b2]) := set_frame hL2 (by omega)
  have q2 : ∀ b, ((s'.L.set 3 (.arr false 1 (dig64 dl))).set 2 b)[2]? = some b := fun b => List.getElem?_set_self (List.getElem?_eq_some_iff.1 q1).1
  simp only [natP] at hc
  simp [-getElem?_pos, h4, h5, hHH, hL2, hL3, hH, hc, q1, q2, hdl]
end Go.GL.Seat
