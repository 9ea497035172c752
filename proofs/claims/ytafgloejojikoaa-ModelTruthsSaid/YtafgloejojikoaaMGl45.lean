/-
  Walks, yD: numbers with a sign (package num).
  Walks, yE: sums, products, differences of api's numbers (package num).
-/
import Derived.Test.YtafgloejojikoaaMGl44
import Derived.Test.YtafgloejojikoaaMGl43
set_option linter.unusedSimpArgs false
set_option linter.unusedVariables false
/-! Walks, yD: numbers with a sign (package num). -/
namespace Go.GL.Seat
open Go.Proofs
set_option maxRecDepth 100000
set_option maxHeartbeats 8000000

abbrev lenN (n : Nat) : Nat := (digsOf n).length
theorem digs_le32 (n : Nat) : ∀ d ∈ digsOf n, d ≤ 4294967295 := fun d hd => by
  have := digsOf_lt n d hd
  have h : B9 = 1000000000 := rfl
  omega

theorem folded2_call {wl : Nat} (g : FuncId) (fn f f1 f2 : Bool) (n0 r1 r2 : Nat) (l1 l2 : List Nat) (h1 : l1.length < 100000000) (h2 : l2.length < 100000000) (hd1 : ∀ d ∈ l1, d ≤ 4294967295) (hd2 : ∀ d ∈ l2, d ≤ 4294967295) (hr : lenN r2 < 1000000000000) (H : Heap) (hH : 0 < H.length)
    (s1 : ∀ L1 : List Blk, E.call g (H.length + 1) [natP fn n0, natP false (valD l1)] (L1 :: H) = some (.ret (natP false r1), L1 :: H))
    (s2 : ∀ L1 : List Blk, E.call g (H.length + 1) [natP false r1, natP false (valD l2)] (L1 :: H) = some (.ret (natP false r2), L1 :: H)) :
    E.call 135 wl [natP fn n0, .func (.func g) [] [], .lst f [.lst f1 (dig l1), .lst f2 (dig l2)]] H = some (.ret (.lst (rowF (digsOf r2)) (dig (digsOf r2))), H) := by
  refine (E_call Try.func135 rfl rfl (by kernel_rfl) rfl _ (by exact Nat.le_of_ble_eq_true rfl) H).trans ?_
  have o1 := fun (w2 : Nat) (L1 : List Blk) => of_nat_val (wl := w2) f1 l1 (by omega) hd1 (L1 :: H) (by simp)
  have o2 := fun (w2 : Nat) (L1 : List Blk) => of_nat_val (wl := w2) f2 l2 (by omega) hd2 (L1 :: H) (by simp)
  have hrow := fun (L1 : List Blk) => row_call (wl := wl) false (digsOf r2) hr (digs_le32 r2) (L1 :: H) (by simp)
  obtain ⟨a1, e1⟩ : ∃ a1, valD l1 = a1 := ⟨_, rfl⟩
  obtain ⟨a2, e2⟩ : ∃ a2, valD l2 = a2 := ⟨_, rfl⟩
  rw [e1] at o1 s1
  rw [e2] at o2 s2
  simp only [natP] at o1 o2 s1 s2
  have hw1 : IntKind.i64.wrap 2 = 2 := by decide
  simp [Try.f135, natP, run_loop, o1, o2, s1, s2, hrow, hH, hw1]

theorem natAdd_call {wl : Nat} (f f1 f2 : Bool) (l1 l2 : List Nat) (h1 : l1.length < 100000000) (h2 : l2.length < 100000000) (hd1 : ∀ d ∈ l1, d ≤ 4294967295) (hd2 : ∀ d ∈ l2, d ≤ 4294967295) (H : Heap) (hH : 0 < H.length) :
    E.call 104 wl [.lst f [.lst f1 (dig l1), .lst f2 (dig l2)]] H = some (.ret (.lst (rowF (digsOf (valD l1 + valD l2))) (dig (digsOf (valD l1 + valD l2)))), H) := by
  refine (E_call Try.func104 rfl rfl (by kernel_rfl) rfl _ (by exact Nat.le_of_ble_eq_true rfl) H).trans ?_
  have b1 := digs_valD l1 hd1
  have b2 := digs_valD l2 hd2
  have b3 := digs_add (valD l1) (valD l2)
  have hc := fun (L1 : List Blk) => folded2_call (wl := wl) 136 true f f1 f2 0 (valD l1) (valD l1 + valD l2) l1 l2 h1 h2 hd1 hd2 (by unfold lenN; omega) (L1 :: H) (by simp)
    (fun L2 => by have := natplus_call (wl := (L1 :: H).length + 1) true false 0 (valD l1) (by rw [digsOf_zero]; simp) (by omega) (L2 :: L1 :: H) (by simp) (by simp); rwa [Nat.zero_add] at this)
    (fun L2 => natplus_call (wl := (L1 :: H).length + 1) false false (valD l1) (valD l2) (by omega) (by omega) (L2 :: L1 :: H) (by simp) (by simp))
  simp only [natP, digsOf_zero] at hc
  obtain ⟨r, hr⟩ : ∃ r, digsOf (valD l1 + valD l2) = r := ⟨_, rfl⟩
  rw [hr] at hc ⊢
  simp [dig64] at hc
  simp [Try.f104, hc, hH]

theorem natMul_call {wl : Nat} (f f1 f2 : Bool) (l1 l2 : List Nat) (h1 : l1.length < 100000000) (h2 : l2.length < 100000000) (hd1 : ∀ d ∈ l1, d ≤ 4294967295) (hd2 : ∀ d ∈ l2, d ≤ 4294967295) (H : Heap) (hH : 0 < H.length) :
    E.call 150 wl [.lst f [.lst f1 (dig l1), .lst f2 (dig l2)]] H = some (.ret (.lst (rowF (digsOf (valD l1 * valD l2))) (dig (digsOf (valD l1 * valD l2)))), H) := by
  refine (E_call Try.func150 rfl rfl (by kernel_rfl) rfl _ (by exact Nat.le_of_ble_eq_true rfl) H).trans ?_
  have b1 := digs_valD l1 hd1
  have b2 := digs_valD l2 hd2
  have b3 := digs_mul (valD l1) (valD l2)
  have one : digsOf 1 = [1] := by rw [digsOf_pos (by decide), show 1 % B9 = 1 by decide, show 1 / B9 = 0 by decide, digsOf_zero]
  have hc := fun (L1 : List Blk) => folded2_call (wl := wl) 160 true f f1 f2 1 (valD l1) (valD l1 * valD l2) l1 l2 h1 h2 hd1 hd2 (by unfold lenN; omega) (L1 :: H) (by simp)
    (fun L2 => by have := nattimes_call (wl := (L1 :: H).length + 1) true false 1 (valD l1) (by rw [one]; simp) (by omega) (L2 :: L1 :: H) (by simp) (by simp); rwa [Nat.one_mul] at this)
    (fun L2 => nattimes_call (wl := (L1 :: H).length + 1) false false (valD l1) (valD l2) (by omega) (by omega) (L2 :: L1 :: H) (by simp) (by simp))
  simp only [natP, one] at hc
  obtain ⟨r, hr⟩ : ∃ r, digsOf (valD l1 * valD l2) = r := ⟨_, rfl⟩
  rw [hr] at hc ⊢
  simp [dig64] at hc
  simp [Try.f150, hc, hH]

theorem natCmp_call {wl : Nat} (f1 f2 : Bool) (l1 l2 : List Nat) (h1 : l1.length < 100000000) (h2 : l2.length < 100000000) (hd1 : ∀ d ∈ l1, d ≤ 4294967295) (hd2 : ∀ d ∈ l2, d ≤ 4294967295) (H : Heap) (hH : 0 < H.length) :
    E.call 137 wl [.lst f1 (dig l1), .lst f2 (dig l2)] H = some (.ret (.int .i64 (cmp3 (valD l1) (valD l2))), H) := by
  refine (E_call Try.func137 rfl rfl (by kernel_rfl) rfl _ (by exact Nat.le_of_ble_eq_true rfl) H).trans ?_
  have b1 := digs_valD l1 hd1
  have b2 := digs_valD l2 hd2
  have o1 := fun (L1 : List Blk) => of_nat_val (wl := wl) f1 l1 (by omega) hd1 (L1 :: H) (by simp)
  have o2 := fun (L1 : List Blk) => of_nat_val (wl := wl) f2 l2 (by omega) hd2 (L1 :: H) (by simp)
  have hc := fun (L1 : List Blk) => natcmp_call (wl := wl) false false (valD l1) (valD l2) (by omega) (by omega) (L1 :: H) (by simp)
  simp only [natP] at o1 o2 hc
  simp [Try.f137, o1, o2, hc, hH]

theorem natSub_call {wl : Nat} (f1 f2 : Bool) (l1 l2 : List Nat) (h1 : l1.length < 100000000) (h2 : l2.length < 100000000) (hd1 : ∀ d ∈ l1, d ≤ 4294967295) (hd2 : ∀ d ∈ l2, d ≤ 4294967295) (hle : valD l2 ≤ valD l1) (H : Heap) (hw : wl ≤ H.length) (hH : 0 < H.length) :
    E.call 106 wl [.lst f1 (dig l1), .lst f2 (dig l2)] H = some (.ret (.tup [.lst (rowF (digsOf (valD l1 - valD l2))) (dig (digsOf (valD l1 - valD l2))), .bool true]), H) := by
  refine (E_call Try.func106 rfl rfl (by kernel_rfl) rfl _ (by exact Nat.le_of_ble_eq_true rfl) H).trans ?_
  have b1 := digs_valD l1 hd1
  have b2 := digs_valD l2 hd2
  have b3 := digs_mono (Nat.sub_le (valD l1) (valD l2))
  have o1 := fun (L1 : List Blk) => of_nat_val (wl := wl) f1 l1 (by omega) hd1 (L1 :: H) (by simp)
  have o2 := fun (L1 : List Blk) => of_nat_val (wl := wl) f2 l2 (by omega) hd2 (L1 :: H) (by simp)
  have hc := fun (L1 : List Blk) => natcmp_call (wl := wl) false false (valD l1) (valD l2) (by omega) (by omega) (L1 :: H) (by simp)
  have hs := fun (L1 : List Blk) => natless_call (wl := wl) false false (valD l1) (valD l2) hle (by omega) (L1 :: H) (by simp; omega) (by simp)
  have hrow := fun (L1 : List Blk) => row_call (wl := wl) false (digsOf (valD l1 - valD l2)) (by omega) (digs_le32 _) (L1 :: H) (by simp)
  have hn : ¬ cmp3 (valD l1 : Int) (valD l2) < 0 := by
    unfold cmp3
    rw [if_neg (by omega)]
    split <;> omega
  simp only [natP] at o1 o2 hc hs
  obtain ⟨r, hr⟩ : ∃ r, digsOf (valD l1 - valD l2) = r := ⟨_, rfl⟩
  rw [hr] at hs hrow ⊢
  simp [Try.f106, o1, o2, hc, hs, hrow, hn, hH]

/-! ### With a sign -/
def numP (z : Int) : PV := .agg [.lst (rowF (digsOf z.natAbs)) (dig (digsOf z.natAbs)), .bool (decide (z < 0))]
def encI (z : Int) : PV := .agg [.bool (decide (z < 0)), .lst (rowF (digsOf z.natAbs)) (dig (digsOf z.natAbs))]

theorem valI_neg (g : Bool) (l : List Nat) : (g && !decide (normD l = [])) = decide (valI g l < 0) := by
  rw [normD_eq]
  cases g with
  | false => simp [valI]
  | true =>
    by_cases h : valD l = 0
    · simp [valI, h, digsOf_zero]
    · have : digsOf (valD l) ≠ [] := fun e => h (digsOf_nil.1 e)
      simp [valI, this]
      omega

theorem made_val {wl : Nat} (f : Bool) (l : List Nat) (g : Bool) (hl : l.length < 100000000) (hd : ∀ d ∈ l, d ≤ 4294967295) (H : Heap) (hH : 0 < H.length) :
    E.call 103 wl [.lst f (dig l), .bool g] H = some (.ret (numP (valI g l)), H) := by
  have b := digs_valD l hd
  have := made_call (wl := wl) f l g (by omega) hd H hH (by rw [normD_eq]; exact digs_le32 _) (by rw [normD_eq]; omega)
  rw [valI_neg, normD_eq] at this
  rw [this, numP, valI_abs]

theorem numof_call {wl : Nat} (f : Bool) (l : List Nat) (g : Bool) (hl : l.length < 100000000) (hd : ∀ d ∈ l, d ≤ 4294967295) (H : Heap) (hH : 0 < H.length) :
    E.call 53 wl [.agg [.bool g, .lst f (dig l)]] H = some (.ret (numP (valI g l)), H) := by
  refine (E_call Try.func53 rfl rfl (by kernel_rfl) rfl _ (by exact Nat.le_of_ble_eq_true rfl) H).trans ?_
  have hm := fun (L1 : List Blk) => made_val (wl := wl) f l g hl hd (L1 :: H) (by simp)
  simp only [numP] at hm ⊢
  simp [Try.f53, hm, hH]

theorem numout_call {wl : Nat} (z : Int) (H : Heap) (hH : 0 < H.length) : E.call 56 wl [numP z] H = some (.ret (encI z), H) := out_call _ _ _ H hH

theorem numcmp_call {wl : Nat} (a b : Int) (ha : lenN a.natAbs < 100000000) (hb : lenN b.natAbs < 100000000) (H : Heap) (hH : 0 < H.length) :
    E.call 105 wl [.agg [.lst (rowF (digsOf a.natAbs)) (dig (digsOf a.natAbs))], .agg [.lst (rowF (digsOf b.natAbs)) (dig (digsOf b.natAbs))]] H = some (.ret (.int .i64 (cmp3 a.natAbs b.natAbs)), H) := by
  refine (E_call Try.func105 rfl rfl (by kernel_rfl) rfl _ (by exact Nat.le_of_ble_eq_true rfl) H).trans ?_
  have hc := fun (L1 : List Blk) => natCmp_call (wl := wl) (rowF (digsOf a.natAbs)) (rowF (digsOf b.natAbs)) (digsOf a.natAbs) (digsOf b.natAbs) ha hb (digs_le32 _) (digs_le32 _) (L1 :: H) (by simp)
  rw [valD_digsOf, valD_digsOf] at hc
  simp [Try.f105, hc, hH]

theorem numturned_call {wl : Nat} (a : Int) (H : Heap) (hH : 0 < H.length) : E.call 55 wl [numP a] H = some (.ret (numP (-a)), H) := by
  refine (E_call Try.func55 rfl rfl (by kernel_rfl) rfl _ (by exact Nat.le_of_ble_eq_true rfl) H).trans ?_
  have hz := fun (w2 : Nat) (L1 : List Blk) => zero_call (wl := w2) (rowF (digsOf a.natAbs)) (digsOf a.natAbs) (L1 :: H) (by simp)
  have hna : (-a).natAbs = a.natAbs := by omega
  unfold numP
  rw [hna]
  obtain ⟨r, hr⟩ : ∃ r, digsOf a.natAbs = r := ⟨_, rfl⟩
  rw [hr] at hz ⊢
  rcases Int.lt_trichotomy a 0 with h | h | h
  · have h2 : ¬ 0 < a := by omega
    simp [Try.f55, h, h2, hH]
  · subst h
    have : r = [] := by rw [← hr]; exact digsOf_zero
    subst this
    simp [Try.f55, hz, hH]
  · have h2 : ¬ a < 0 := by omega
    have h3 : r ≠ [] := by rw [← hr]; intro e; have := digsOf_nil.1 e; omega
    simp [Try.f55, hz, h, h2, h3, hH]

theorem numtimes_call {wl : Nat} (a b : Int) (ha : lenN a.natAbs < 50000000) (hb : lenN b.natAbs < 50000000) (H : Heap) (hH : 0 < H.length) :
    E.call 129 wl [numP a, numP b] H = some (.ret (numP (a * b)), H) := by
  refine (E_call Try.func129 rfl rfl (by kernel_rfl) rfl _ (by exact Nat.le_of_ble_eq_true rfl) H).trans ?_
  have hm := fun (w2 : Nat) (f : Bool) (L1 : List Blk) => natMul_call (wl := w2) f (rowF (digsOf a.natAbs)) (rowF (digsOf b.natAbs)) (digsOf a.natAbs) (digsOf b.natAbs) (by unfold lenN at ha; omega) (by unfold lenN at hb; omega) (digs_le32 _) (digs_le32 _) (L1 :: H) (by simp)
  rw [valD_digsOf, valD_digsOf] at hm
  have hl := digs_mul a.natAbs b.natAbs
  have hmade := fun (w2 : Nat) (f g : Bool) (L1 : List Blk) => made_val (wl := w2) f (digsOf (a.natAbs * b.natAbs)) g (by unfold lenN at ha hb; omega) (digs_le32 _) (L1 :: H) (by simp)
  have hv : valI (decide (a < 0) != decide (b < 0)) (digsOf (a.natAbs * b.natAbs)) = a * b := by
    have e1 : ((a.natAbs * b.natAbs : Nat) : Int) = (a.natAbs : Int) * b.natAbs := Int.natCast_mul _ _
    unfold valI
    rw [valD_digsOf, e1]
    rcases Int.lt_or_le a 0 with h1 | h1 <;> rcases Int.lt_or_le b 0 with h2 | h2
    · rw [show (a.natAbs : Int) = -a by omega, show (b.natAbs : Int) = -b by omega]
      simp [h1, h2, Int.neg_mul_neg]
    · rw [show (a.natAbs : Int) = -a by omega, show (b.natAbs : Int) = b by omega]
      simp [h1, show ¬ b < 0 by omega, Int.neg_mul]
    · rw [show (a.natAbs : Int) = a by omega, show (b.natAbs : Int) = -b by omega]
      simp [h2, show ¬ a < 0 by omega, Int.mul_neg]
    · rw [show (a.natAbs : Int) = a by omega, show (b.natAbs : Int) = b by omega]
      simp [show ¬ b < 0 by omega, show ¬ a < 0 by omega]
  have hmade2 := fun (w2 : Nat) (f : Bool) (L1 : List Blk) => hmade w2 f (decide (a < 0) != decide (b < 0)) L1
  rw [hv] at hmade2
  simp only [numP] at hmade2 ⊢
  obtain ⟨r, hr⟩ : ∃ r, digsOf (a.natAbs * b.natAbs) = r := ⟨_, rfl⟩
  rw [hr] at hm hmade2
  have hmm : (a * b).natAbs = a.natAbs * b.natAbs := Int.natAbs_mul a b
  simp only [hmm, hr] at hmade2 ⊢
  obtain ⟨x, hx⟩ : ∃ x, decide (a < 0) = x := ⟨_, rfl⟩
  obtain ⟨y, hy⟩ : ∃ y, decide (b < 0) = y := ⟨_, rfl⟩
  rw [hx, hy] at hmade2 ⊢
  simp [Try.f129, hm, hmade2, hH]

theorem numplus1 {wl : Nat} (a b : Int) (ha : lenN a.natAbs < 50000000) (hb : lenN b.natAbs < 50000000) (hab : (a < 0 ↔ b < 0) ∨ b.natAbs ≤ a.natAbs) (H : Heap) (hw : wl ≤ H.length) (hH : 0 < H.length) :
    E.call 54 wl [numP a, numP b] H = some (.ret (numP (a + b)), H) := by
  refine (E_call Try.func54 rfl rfl (by kernel_rfl) rfl _ (by exact Nat.le_of_ble_eq_true rfl) H).trans ?_
  unfold lenN at ha hb
  by_cases hs : (a < 0 ↔ b < 0)
  · have hm := fun (w2 : Nat) (f : Bool) (L1 : List Blk) => natAdd_call (wl := w2) f (rowF (digsOf a.natAbs)) (rowF (digsOf b.natAbs)) (digsOf a.natAbs) (digsOf b.natAbs) (by omega) (by omega) (digs_le32 _) (digs_le32 _) (L1 :: H) (by simp)
    rw [valD_digsOf, valD_digsOf] at hm
    have hl := digs_add a.natAbs b.natAbs
    have hmade := fun (w2 : Nat) (f : Bool) (L1 : List Blk) => made_val (wl := w2) f (digsOf (a.natAbs + b.natAbs)) (decide (a < 0)) (by omega) (digs_le32 _) (L1 :: H) (by simp)
    have hv : valI (decide (a < 0)) (digsOf (a.natAbs + b.natAbs)) = a + b := by
      unfold valI
      rw [valD_digsOf]
      rcases Int.lt_or_le a 0 with h1 | h1
      · have := hs.1 h1
        simp only [h1, decide_true, if_true]; omega
      · have : ¬ b < 0 := fun h => by have := hs.2 h; omega
        have h3 : ¬ a < 0 := by omega
        simp only [h3, decide_false, Bool.false_eq_true, if_false]; omega
    rw [hv] at hmade
    simp only [numP] at hmade ⊢
    have hab2 : (a + b).natAbs = a.natAbs + b.natAbs := by
      rcases Int.lt_or_le a 0 with h1 | h1
      · have := hs.1 h1; omega
      · have : ¬ b < 0 := fun h => by have := hs.2 h; omega
        omega
    obtain ⟨r, hr⟩ : ∃ r, digsOf (a.natAbs + b.natAbs) = r := ⟨_, rfl⟩
    simp only [hab2] at hmade ⊢
    rw [hr] at hm hmade ⊢
    have hd : decide (b < 0) = decide (a < 0) := by simp [hs]
    rw [hd]
    obtain ⟨x, hx⟩ : ∃ x, decide (a < 0) = x := ⟨_, rfl⟩
    rw [hx] at hmade ⊢
    simp [Try.f54, hm, hmade, hH]
    done
  · have hle := hab.resolve_left hs
    have hc := fun (L1 : List Blk) => numcmp_call (wl := wl) a b (by unfold lenN; omega) (by unfold lenN; omega) (L1 :: H) (by simp)
    have hn : ¬ cmp3 (a.natAbs : Int) b.natAbs < 0 := by
      unfold cmp3
      rw [if_neg (by omega)]
      split <;> omega
    have hm := fun (L1 : List Blk) => natSub_call (wl := wl) (rowF (digsOf a.natAbs)) (rowF (digsOf b.natAbs)) (digsOf a.natAbs) (digsOf b.natAbs) (by omega) (by omega) (digs_le32 _) (digs_le32 _) (by rw [valD_digsOf, valD_digsOf]; exact hle) (L1 :: H) (by simp; omega) (by simp)
    rw [valD_digsOf, valD_digsOf] at hm
    have hl := digs_mono (Nat.sub_le a.natAbs b.natAbs)
    have hmade := fun (f : Bool) (L1 : List Blk) => made_val (wl := wl) f (digsOf (a.natAbs - b.natAbs)) (decide (a < 0)) (by omega) (digs_le32 _) (L1 :: H) (by simp)
    have hv : valI (decide (a < 0)) (digsOf (a.natAbs - b.natAbs)) = a + b := by
      unfold valI
      rw [valD_digsOf]
      rcases Int.lt_or_le a 0 with h1 | h1
      · have : ¬ b < 0 := fun h => hs ⟨fun _ => h, fun _ => h1⟩
        simp only [h1, decide_true, if_true]; omega
      · have : b < 0 := by
          rcases Int.lt_or_le b 0 with h | h
          · exact h
          · exact absurd ⟨fun h2 => absurd h2 (by omega), fun h2 => absurd h2 (by omega)⟩ hs
        have h3 : ¬ a < 0 := by omega
        simp only [h3, decide_false, Bool.false_eq_true, if_false]; omega
    rw [hv] at hmade
    simp only [numP] at hmade ⊢
    obtain ⟨r, hr⟩ : ∃ r, digsOf (a.natAbs - b.natAbs) = r := ⟨_, rfl⟩
    obtain ⟨r2, hr2⟩ : ∃ r2, digsOf (a + b).natAbs = r2 := ⟨_, rfl⟩
    obtain ⟨x2, hx2⟩ : ∃ x2, decide (a + b < 0) = x2 := ⟨_, rfl⟩
    rw [hr] at hm hmade
    rw [hr2, hx2] at hmade ⊢
    have hd : decide (b < 0) = !decide (a < 0) := by
      by_cases h1 : a < 0
      · have : ¬ b < 0 := fun h => hs ⟨fun _ => h, fun _ => h1⟩
        simp [h1, this]
      · have : b < 0 := by
          rcases Int.lt_or_le b 0 with h | h
          · exact h
          · exact absurd ⟨fun h2 => absurd h2 (by omega), fun h2 => absurd h2 (by omega)⟩ hs
        simp [h1, this]
    rw [hd]
    obtain ⟨x, hx⟩ : ∃ x, decide (a < 0) = x := ⟨_, rfl⟩
    rw [hx] at hmade ⊢
    cases x <;> simp [Try.f54, hc, hn, hm, hmade, hH]

theorem numplus_call {wl : Nat} (a b : Int) (ha : lenN a.natAbs < 50000000) (hb : lenN b.natAbs < 50000000) (H : Heap) (hw : wl ≤ H.length) (hH : 0 < H.length) :
    E.call 54 wl [numP a, numP b] H = some (.ret (numP (a + b)), H) := by
  by_cases hab : (a < 0 ↔ b < 0) ∨ b.natAbs ≤ a.natAbs
  · exact numplus1 a b ha hb hab H hw hH
  refine (E_call Try.func54 rfl rfl (by kernel_rfl) rfl _ (by exact Nat.le_of_ble_eq_true rfl) H).trans ?_
  have hlt : a.natAbs < b.natAbs := by
    rcases Nat.lt_or_ge a.natAbs b.natAbs with h | h
    · exact h
    · exact absurd (.inr h) hab
  have hs : ¬ (a < 0 ↔ b < 0) := fun h => hab (.inl h)
  have hc := fun (L1 : List Blk) => numcmp_call (wl := wl) a b (by omega) (by omega) (L1 :: H) (by simp)
  rw [cmp3_lt (by omega)] at hc
  have hp := fun (L1 : List Blk) => numplus1 (wl := wl) b a hb ha (.inr (by omega)) (L1 :: H) (by simp; omega) (by simp)
  rw [Int.add_comm b a] at hp
  simp only [numP] at hp ⊢
  obtain ⟨r2, hr2⟩ : ∃ r2, digsOf (a + b).natAbs = r2 := ⟨_, rfl⟩
  obtain ⟨x2, hx2⟩ : ∃ x2, decide (a + b < 0) = x2 := ⟨_, rfl⟩
  rw [hr2, hx2] at hp ⊢
  have hd : decide (b < 0) = !decide (a < 0) := by
    by_cases h1 : a < 0
    · have : ¬ b < 0 := fun h => hs ⟨fun _ => h, fun _ => h1⟩
      simp [h1, this]
    · have : b < 0 := by
        rcases Int.lt_or_le b 0 with h | h
        · exact h
        · exact absurd ⟨fun h2 => absurd h2 (by omega), fun h2 => absurd h2 (by omega)⟩ hs
      simp [h1, this]
  rw [hd] at hp ⊢
  obtain ⟨x, hx⟩ : ∃ x, decide (a < 0) = x := ⟨_, rfl⟩
  rw [hx] at hp ⊢
  cases x <;> simp at hp <;> simp [Try.f54, hc, hp, hH]
end Go.GL.Seat

/-! Walks, yE: sums, products, differences of api's numbers (package num). -/
namespace Go.GL.Seat
open Go.Proofs
set_option maxRecDepth 100000
set_option maxHeartbeats 8000000

/-- A number of api's. -/
structure Nm where
  ng : Bool
  f : Bool
  ds : List Nat
def Nm.enc (n : Nm) : PV := .agg [.bool n.ng, .lst n.f (dig n.ds)]
def Nm.val (n : Nm) : Int := valI n.ng n.ds
def Nm.ok (n : Nm) : Prop := n.ds.length < 40000000 ∧ ∀ d ∈ n.ds, d ≤ 4294967295

theorem numof_val {wl : Nat} (n : Nm) (hn : n.ok) (H : Heap) (hH : 0 < H.length) : E.call 53 wl [n.enc] H = some (.ret (numP n.val), H) :=
  numof_call n.f n.ds n.ng (by have := hn.1; omega) hn.2 H hH

def accN (op : Int → Int → Int) (first : Int) (l : List Nm) : Int := l.foldl (fun a x => op a x.val) first
theorem accN_succ (op : Int → Int → Int) (first : Int) (l : List Nm) (i : Nat) (x : Nm) (h : l[i]? = some x) : accN op first (l.take (i + 1)) = op (accN op first (l.take i)) x.val := by
  unfold accN
  rw [List.take_add_one, h]
  simp

theorem together_call {wl : Nat} (g : FuncId) (op : Int → Int → Int) (first : Int) (f : Bool) (l : List Nm) (hl : l.length < 1000000000000) (hok : ∀ x ∈ l, x.ok) (H : Heap) (hH : 0 < H.length)
    (hst : ∀ (i : Nat) (x : Nm), l[i]? = some x → ∀ L1 : List Blk, E.call g (H.length + 1) [numP (accN op first (l.take i)), numP x.val] (L1 :: H) = some (.ret (numP (accN op first (l.take (i + 1)))), L1 :: H)) :
    E.call 125 wl [numP first, .func (.func g) [] [], .lst f (l.map Nm.enc)] H = some (.ret (encI (accN op first l)), H) := by
  refine (E_call Try.func125 rfl rfl (by kernel_rfl) rfl _ (by exact Nat.le_of_ble_eq_true rfl) H).trans ?_
  have ho := fun (L1 : List Blk) => numout_call (wl := wl) (accN op first l) (L1 :: H) (by simp)
  simp only [numP] at ho
  simp only [numP, encI] at ho ⊢
  simp [Try.f125]
  generalize hz : run tab E wl (Code.loop _) _ = z
  obtain ⟨x, s', rfl, hx⟩ := loop_up (fun c s => E_loop) hz l.length (fun i st => ∃ b0 b1, st.env 1 = .func (.func g) [] [] ∧ st.env 3 = .ptr H.length 0 0 ∧ st.env 6 = .ptr H.length 1 0 ∧ st.env 9 = .lst f (l.map Nm.enc) ∧ st.env 10 = .int .i64 l.length ∧ st.env 11 = .int .i64 i ∧ st.H = H ∧ st.L[0]? = some (.box (cellsOf (numP (accN op first (l.take i))))) ∧ st.L[1]? = some (.box [b0, b1]))
    (fun x st => ∃ b0 b1, x = .exit 0 ∧ st.env 3 = .ptr H.length 0 0 ∧ st.env 6 = .ptr H.length 1 0 ∧ st.H = H ∧ st.L[0]? = some (.box (cellsOf (numP (accN op first l)))) ∧ st.L[1]? = some (.box [b0, b1]))
    ⟨_, _, by simp, by simp, by simp, by simp, by simp, by simp, by simp, by simp [accN, numP]; rfl, by simp; exact ⟨rfl, rfl⟩⟩ (by
      rintro i ⟨e, L, H'⟩ hi ⟨b0, b1, h1, h3, h6, h9, h10, h11, hHH, hL0, hL1⟩
      simp only [] at h1 h3 h6 h9 h10 h11 hHH hL0 hL1
      subst hHH
      obtain ⟨t, ht⟩ : ∃ t, l[i]? = some t := ⟨_, List.getElem?_eq_getElem hi⟩
      have hw2 := i64w (n := (i : Int) + 1) (by omega) (by omega)
      have hs := hst i t ht
      have hof := fun (w2 : Nat) (L1 : List Blk) => numof_val (wl := w2) t (hok t (List.mem_of_getElem? ht)) (L1 :: H') (by simp)
      obtain ⟨a0, ha0⟩ : ∃ a0, accN op first (l.take i) = a0 := ⟨_, rfl⟩
      obtain ⟨a1, ha1⟩ : ∃ a1, accN op first (l.take (i + 1)) = a1 := ⟨_, rfl⟩
      obtain ⟨v, hv⟩ : ∃ v, t.val = v := ⟨_, rfl⟩
      rw [ha0] at hL0
      rw [ha0, ha1, hv] at hs
      rw [hv] at hof
      rw [ha1]
      have hmp : (l.map Nm.enc)[i]? = some t.enc := by rw [List.getElem?_map, ht]; rfl
      have hml : (l.map Nm.enc).length = l.length := by simp
      obtain ⟨ml, hml2⟩ : ∃ ml, l.map Nm.enc = ml := ⟨_, rfl⟩
      rw [hml2] at h9 hmp
      simp only [Nm.enc] at hof hmp
      simp only [numP, cellsOf] at hs hof hL0 ⊢
      have hLl := (List.getElem?_eq_some_iff.1 hL0).1
      simp [-getElem?_pos, h1, h3, h6, h9, h10, h11, hmp, hi, hw2, hs, hof, hL0, hL1, app_old hL0, app_old hL1, hml2]
      ) (by
      rintro ⟨e, L, H'⟩ ⟨b0, b1, h1, h3, h6, h9, h10, h11, hHH, hL0, hL1⟩
      simp only [] at h1 h3 h6 h9 h10 h11 hHH hL0 hL1
      rw [List.take_length] at hL0
      simp [-getElem?_pos, h1, h3, h6, h9, h10, h11, hHH, hL0, hL1]
      )
  obtain ⟨b0, b1, rfl, h3, h6, hHH, hL0, hL1⟩ := hx
  simp only [numP, cellsOf] at hL0
  have q1 : ∀ b, (s'.L.set 1 b)[1]? = some b := fun b => List.getElem?_set_self (List.getElem?_eq_some_iff.1 hL1).1
  simp [-getElem?_pos, h3, h6, hHH, hL0, hL1, hH, ho, q1]

theorem take_le' (l : List Nat) (i : Nat) : (l.take i).sum ≤ l.sum := by
  have h : (l.take i ++ l.drop i).sum = (l.take i).sum + (l.drop i).sum := List.sum_append
  rw [List.take_append_drop] at h
  omega
/-- Sums of sizes. -/
def absSum (l : List Nm) : Nat := (l.map fun x => x.val.natAbs).sum
theorem accN_abs (l : List Nm) (i : Nat) : (accN (· + ·) 0 (l.take i)).natAbs ≤ absSum l := by
  have key : ∀ (l : List Nm) (a : Int), (l.foldl (fun a x => a + x.val) a).natAbs ≤ a.natAbs + absSum l := by
    intro l
    induction l with
    | nil => intro a; simp [absSum]
    | cons x l ih =>
      intro a
      have := ih (a + x.val)
      simp only [List.foldl_cons, absSum, List.map_cons, List.sum_cons] at this ⊢
      omega
  have h1 := key (l.take i) 0
  have h2 : absSum (l.take i) ≤ absSum l := by
    unfold absSum
    rw [List.map_take]
    exact take_le' _ _
  unfold accN
  simp at h1 ⊢
  omega

theorem abs_le {l : List Nm} {i : Nat} {x : Nm} (h : l[i]? = some x) : x.val.natAbs ≤ absSum l := by
  have hm := List.mem_of_getElem? h
  clear h
  induction l with
  | nil => cases hm
  | cons y l ih =>
    simp only [absSum, List.map_cons, List.sum_cons] at ih ⊢
    rcases List.mem_cons.1 hm with rfl | hm
    · omega
    · have := ih hm; omega
theorem numzero : numP 0 = .agg [.lst true [], .bool false] := by simp [numP, digsOf_zero, rowF, dig]
theorem encIzero : encI 0 = .agg [.bool false, .lst true []] := by simp [encI, digsOf_zero, rowF, dig]

theorem Add_call {wl : Nat} (f : Bool) (l : List Nm) (hl : l.length < 1000000000000) (hok : ∀ x ∈ l, x.ok) (hb : lenN (absSum l) < 50000000) (H : Heap) (hH : 0 < H.length) :
    E.call 90 wl [.lst f (l.map Nm.enc)] H = some (.ret (encI (accN (· + ·) 0 l)), H) := by
  refine (E_call Try.func90 rfl rfl (by kernel_rfl) rfl _ (by exact Nat.le_of_ble_eq_true rfl) H).trans ?_
  have ht := fun (L1 : List Blk) => together_call (wl := wl) 54 (· + ·) 0 f l hl hok (L1 :: H) (by simp) (fun i x hx L2 => by
    rw [accN_succ _ _ _ _ _ hx]
    have b1 := digs_mono (accN_abs l i)
    have b2 : lenN x.val.natAbs ≤ lenN (absSum l) := digs_mono (abs_le hx)
    unfold lenN at b2 hb
    exact numplus_call _ _ (by unfold lenN; omega) (by unfold lenN; omega) _ (by simp) (by simp))
  rw [numzero] at ht
  simp only [encI] at ht ⊢
  obtain ⟨a, ha⟩ : ∃ a, accN (· + ·) 0 l = a := ⟨_, rfl⟩
  rw [ha] at ht ⊢
  simp [Try.f90, ht, hH]

theorem small_one {wl : Nat} (H : Heap) (hH : 0 < H.length) : E.call 57 wl [.int .u64 1, .bool false] H = some (.ret (numP 1), H) := by
  have h1 : digsN 1 = [1] := by
    unfold digsN
    rw [normD_eq, carryD_nil (by decide), show 1 / B9 = 0 by decide, show 1 % B9 = 1 by decide]
    simp only [carryD, valD]
    rw [digsOf_pos (by decide)]
    simp only [Nat.mul_zero, Nat.add_zero]
    rw [show 1 / B9 = 0 by decide, show 1 % B9 = 1 by decide, digsOf_zero]
  have := small_call (wl := wl) 1 false (by decide) H hH (by rw [h1]; simp) (by rw [h1]; simp)
  rw [h1] at this
  refine this.trans ?_
  have h2 : digsOf 1 = [1] := by rw [digsOf_pos (by decide), show 1 % B9 = 1 by decide, show 1 / B9 = 0 by decide, digsOf_zero]
  simp [numP, h2]

theorem numone : numP 1 = .agg [.lst false [.int .u32 1], .bool false] := by
  have h2 : digsOf 1 = [1] := by rw [digsOf_pos (by decide), show 1 % B9 = 1 by decide, show 1 / B9 = 0 by decide, digsOf_zero]
  simp [numP, h2, rowF, dig]

theorem Mul2_call {wl : Nat} (f : Bool) (x y : Nm) (hx : x.ok) (hy : y.ok) (bx : lenN x.val.natAbs < 20000000) (bY : lenN y.val.natAbs < 20000000) (H : Heap) (hH : 0 < H.length) :
    E.call 95 wl [.lst f [x.enc, y.enc]] H = some (.ret (encI (x.val * y.val)), H) := by
  refine (E_call Try.func95 rfl rfl (by kernel_rfl) rfl _ (by exact Nat.le_of_ble_eq_true rfl) H).trans ?_
  have e1 : accN (· * ·) 1 [x, y] = x.val * y.val := by simp [accN]
  have o1 : lenN (1 : Int).natAbs < 50000000 := by
    have : digsOf 1 = [1] := by rw [digsOf_pos (by decide), show 1 % B9 = 1 by decide, show 1 / B9 = 0 by decide, digsOf_zero]
    show (digsOf 1).length < _
    rw [this]; simp
  have ht := fun (L1 : List Blk) => together_call (wl := wl) 129 (· * ·) 1 f [x, y] (by simp) (by simp [hx, hy]) (L1 :: H) (by simp) (fun i z hz L2 => by
    rw [accN_succ _ _ _ _ _ hz]
    match i with
    | 0 =>
      simp at hz; subst hz
      exact numtimes_call 1 x.val o1 (by omega) (L2 :: L1 :: H) (by simp)
    | 1 =>
      simp at hz; subst hz
      have e2 : accN (· * ·) 1 ([x, y].take 1) = x.val := by simp [accN]
      rw [e2]
      exact numtimes_call x.val y.val (by omega) (by omega) (L2 :: L1 :: H) (by simp)
    | i + 2 => simp at hz)
  have hs := fun (L1 : List Blk) => small_one (wl := wl) (L1 :: H) (by simp)
  rw [e1, numone] at ht
  rw [numone] at hs
  obtain ⟨z, hz⟩ : ∃ z, x.val * y.val = z := ⟨_, rfl⟩
  rw [hz] at ht ⊢
  simp only [encI, List.map_cons, List.map_nil, Nm.enc] at ht hs ⊢
  simp [Try.f95, ht, hs, hH]

theorem Sub_call {wl : Nat} (x y : Nm) (hx : x.ok) (hy : y.ok) (H : Heap) (hw : wl ≤ H.length) (hH : 0 < H.length) :
    E.call 18 wl [x.enc, y.enc] H = some (.ret (encI (x.val - y.val)), H) := by
  refine (E_call Try.func18 rfl rfl (by kernel_rfl) rfl _ (by exact Nat.le_of_ble_eq_true rfl) H).trans ?_
  have ox := fun (w2 : Nat) (L1 : List Blk) => numof_val (wl := w2) x hx (L1 :: H) (by simp)
  have oy := fun (w2 : Nat) (L1 : List Blk) => numof_val (wl := w2) y hy (L1 :: H) (by simp)
  have ht := fun (w2 : Nat) (L1 : List Blk) => numturned_call (wl := w2) y.val (L1 :: H) (by simp)
  have hbx := digs_valD x.ds hx.2
  have hby := digs_valD y.ds hy.2
  have h1 := hx.1
  have h2 := hy.1
  have ex : x.val.natAbs = valD x.ds := valI_abs _ _
  have ey : (-y.val).natAbs = valD y.ds := by rw [Int.natAbs_neg]; exact valI_abs _ _
  have hp := fun (L1 : List Blk) => numplus_call (wl := H.length + 1) x.val (-y.val) (by unfold lenN; rw [ex]; omega) (by unfold lenN; rw [ey]; omega) (L1 :: H) (by simp) (by simp)
  rw [← Int.sub_eq_add_neg] at hp
  have ho := fun (w2 : Nat) (L1 : List Blk) => numout_call (wl := w2) (x.val - y.val) (L1 :: H) (by simp)
  obtain ⟨a, ha⟩ : ∃ a, x.val = a := ⟨_, rfl⟩
  obtain ⟨b, hb⟩ : ∃ b, y.val = b := ⟨_, rfl⟩
  obtain ⟨c, hc⟩ : ∃ c, a - b = c := ⟨_, rfl⟩
  rw [ha] at ox
  rw [hb] at oy ht
  rw [ha, hb] at hp ho ⊢
  obtain ⟨nb, hnb⟩ : ∃ nb, -b = nb := ⟨_, rfl⟩
  rw [hnb] at ht hp
  rw [hc] at hp ho ⊢
  simp only [numP, encI, Nm.enc] at ox oy ht hp ho ⊢
  simp [Try.f18, ox, oy, ht, hp, ho, hH]

theorem Cmp_call {wl : Nat} (x y : Nm) (hx : x.ok) (hy : y.ok) (H : Heap) (hH : 0 < H.length) :
    E.call 101 wl [x.enc, y.enc] H = some (.ret (.int .i64 (cmp3 x.val y.val)), H) := by
  refine (E_call Try.func101 rfl rfl (by kernel_rfl) rfl _ (by exact Nat.le_of_ble_eq_true rfl) H).trans ?_
  have ox := fun (w2 : Nat) (L1 : List Blk) => numof_val (wl := w2) x hx (L1 :: H) (by simp)
  have oy := fun (w2 : Nat) (L1 : List Blk) => numof_val (wl := w2) y hy (L1 :: H) (by simp)
  have hbx := digs_valD x.ds hx.2
  have hby := digs_valD y.ds hy.2
  have h1 := hx.1
  have h2 := hy.1
  have ex : x.val.natAbs = valD x.ds := valI_abs _ _
  have ey : y.val.natAbs = valD y.ds := valI_abs _ _
  have c1 := fun (L1 : List Blk) => numcmp_call (wl := wl) x.val y.val (by unfold lenN; rw [ex]; omega) (by unfold lenN; rw [ey]; omega) (L1 :: H) (by simp)
  have c2 := fun (L1 : List Blk) => numcmp_call (wl := wl) y.val x.val (by unfold lenN; rw [ey]; omega) (by unfold lenN; rw [ex]; omega) (L1 :: H) (by simp)
  obtain ⟨a, ha⟩ : ∃ a, x.val = a := ⟨_, rfl⟩
  obtain ⟨b, hb⟩ : ∃ b, y.val = b := ⟨_, rfl⟩
  rw [ha] at ox
  rw [hb] at oy
  rw [ha, hb] at c1 c2 ⊢
  simp only [numP, Nm.enc] at ox oy ⊢
  rcases Int.lt_or_le a 0 with ha0 | ha0 <;> rcases Int.lt_or_le b 0 with hb0 | hb0
  · have : cmp3 (b.natAbs : Int) a.natAbs = cmp3 a b := by unfold cmp3; split <;> split <;> (try split) <;> (try split) <;> omega
    rw [this] at c2
    simp [ha0, hb0] at ox oy
    simp [Try.f101, ox, oy, c2, hH]
  · have hb1 : ¬ b < 0 := by omega
    rw [cmp3_lt (by omega)]
    simp [ha0, hb1] at ox oy
    simp [Try.f101, ox, oy, hH]
  · have ha1 : ¬ a < 0 := by omega
    rw [cmp3_gt (by omega)]
    simp [hb0, ha1] at ox oy
    simp [Try.f101, ox, oy, hH]
  · have hb1 : ¬ b < 0 := by omega
    have ha1 : ¬ a < 0 := by omega
    have : cmp3 (a.natAbs : Int) b.natAbs = cmp3 a b := by rw [show (a.natAbs : Int) = a by omega, show (b.natAbs : Int) = b by omega]
    rw [this] at c1
    simp [ha1, hb1] at ox oy
    simp [Try.f101, ox, oy, c1, hH]
end Go.GL.Seat
