/-
  GL, data: numbers: what rows of digits stand for.
  GL, data: numbers: sums, differences, products by digits.
  GL, data: numbers: products by digits.
-/
import Derived.Test.YtafgloejojikoaaMGdC
set_option linter.unusedSimpArgs false
set_option linter.unusedVariables false
/-! GL, data: numbers: what rows of digits stand for. -/
namespace Go.GL

def valD : List Nat → Nat
  | [] => 0
  | d :: ds => d + B9 * valD ds
def digsOf (n : Nat) : List Nat := carryD n []
theorem digsOf_zero : digsOf 0 = [] := by simp [digsOf, carryD]
theorem digsOf_pos {n : Nat} (h : 0 < n) : digsOf n = n % B9 :: digsOf (n / B9) := carryD_nil h

theorem trimD_nil : trimD [] = [] := rfl
theorem trimD_app (l : List Nat) (d : Nat) : trimD (l ++ [d]) = if d = 0 then trimD l else l ++ [d] := by
  have h := trimD_last (l := l ++ [d]) (by simp)
  simpa using h
def cT (x : Nat) : List Nat → List Nat
  | [] => if x = 0 then [] else [x]
  | y :: m => x :: y :: m
theorem trimD_cons (x : Nat) (l : List Nat) : trimD (x :: l) = cT x (trimD l) := by
  have key : ∀ n (l : List Nat), l.length = n → trimD (x :: l) = cT x (trimD l) := by
    intro n
    induction n with
    | zero =>
      intro l hl
      have : l = [] := List.eq_nil_of_length_eq_zero hl
      subst this
      have := trimD_app [] x
      simp only [List.nil_append] at this
      rw [this, trimD_nil]
      simp [cT]
    | succ n ih =>
      intro l hl
      have hne : l ≠ [] := by rintro rfl; simp at hl
      obtain ⟨m, d, rfl⟩ : ∃ m d, l = m ++ [d] := ⟨l.dropLast, l.getLast hne, (List.dropLast_concat_getLast hne).symm⟩
      rw [← List.cons_append, trimD_app, trimD_app]
      by_cases hd : d = 0
      · rw [if_pos hd, if_pos hd]
        exact ih m (by simpa using hl)
      · rw [if_neg hd, if_neg hd]
        cases m <;> simp [cT]
  exact key _ l rfl
theorem cT_digs (c q : Nat) (h : 0 < c + B9 * q) (hc : c < B9) : cT c (digsOf q) = c :: digsOf q := by
  rcases Nat.eq_zero_or_pos q with h0 | h0
  · subst h0
    have : c ≠ 0 := by omega
    simp [digsOf_zero, cT, this]
  · rw [digsOf_pos h0]
    rfl

theorem normD_carry : ∀ (l : List Nat) (c : Nat), trimD (carryD c l) = digsOf (c + valD l)
  | [], c => by
    induction c using Nat.strongRecOn with
    | _ c ih =>
      rcases Nat.eq_zero_or_pos c with rfl | h
      · simp [carryD, digsOf, valD, trimD_nil]
      · rw [carryD_nil h, trimD_cons, ih (c / B9) (Nat.div_lt_self h (by decide))]
        simp only [valD, Nat.add_zero]
        rw [cT_digs _ _ (by have := Nat.div_add_mod c B9; omega) (Nat.mod_lt _ (by decide)), digsOf_pos h]
  | d :: ds, c => by
    rw [carryD, trimD_cons, normD_carry ds]
    simp only [valD]
    rcases Nat.eq_zero_or_pos (c + (d + B9 * valD ds)) with h | h
    · have h1 : c + d = 0 := by omega
      have h2 : valD ds = 0 := by
        rcases Nat.eq_zero_or_pos (valD ds) with h3 | h3
        · exact h3
        · have : 0 < B9 * valD ds := Nat.mul_pos (by decide) h3
          omega
      have h3 : c = 0 := by omega
      have h4 : d = 0 := by omega
      subst h3 h4
      simp [h2, digsOf_zero, cT]
    · have hm : (c + (d + B9 * valD ds)) % B9 = (c + d) % B9 := by rw [← Nat.add_assoc, Nat.add_mul_mod_self_left]
      have hq : (c + (d + B9 * valD ds)) / B9 = (c + d) / B9 + valD ds := by rw [← Nat.add_assoc, Nat.add_mul_div_left _ _ (by decide)]
      rw [digsOf_pos h, hm, hq, cT_digs _ _ ?_ (Nat.mod_lt _ (by decide))]
      have := Nat.div_add_mod (c + d) B9
      rw [Nat.mul_add]
      omega
theorem normD_eq (l : List Nat) : normD l = digsOf (valD l) := by
  unfold normD
  rw [normD_carry, Nat.zero_add]

theorem valD_digsOf (n : Nat) : valD (digsOf n) = n := by
  induction n using Nat.strongRecOn with
  | _ n ih =>
    rcases Nat.eq_zero_or_pos n with rfl | h
    · simp [digsOf_zero, valD]
    · rw [digsOf_pos h, valD, ih _ (Nat.div_lt_self h (by decide))]
      have := Nat.div_add_mod n B9
      omega
theorem digsOf_inj {a b : Nat} (h : digsOf a = digsOf b) : a = b := by rw [← valD_digsOf a, ← valD_digsOf b, h]
theorem digsOf_nil {n : Nat} : digsOf n = [] ↔ n = 0 := by
  constructor
  · intro h; have := valD_digsOf n; rw [h] at this; simpa [valD] using this.symm
  · rintro rfl; exact digsOf_zero
theorem digsOf_lt (n : Nat) : ∀ d ∈ digsOf n, d < B9 := by
  induction n using Nat.strongRecOn with
  | _ n ih =>
    rcases Nat.eq_zero_or_pos n with rfl | h
    · simp [digsOf_zero]
    · rw [digsOf_pos h]
      intro d hd
      rcases List.mem_cons.1 hd with rfl | hd
      · exact Nat.mod_lt _ (by decide)
      · exact ih _ (Nat.div_lt_self h (by decide)) d hd
theorem digsOf_last (n : Nat) (h : digsOf n ≠ []) : (digsOf n).getLast h ≠ 0 := by
  induction n using Nat.strongRecOn with
  | _ n ih =>
    rcases Nat.eq_zero_or_pos n with rfl | h0
    · exact absurd digsOf_zero h
    · have e := digsOf_pos h0
      rcases Nat.eq_zero_or_pos (n / B9) with h1 | h1
      · simp only [e, h1, digsOf_zero, List.getLast_singleton]
        have := Nat.div_add_mod n B9
        rw [h1] at this
        omega
      · have hne : digsOf (n / B9) ≠ [] := by rw [digsOf_pos h1]; simp
        simp only [e]
        rw [List.getLast_cons hne]
        exact ih _ (Nat.div_lt_self h0 (by decide)) hne

theorem valD_lt (l : List Nat) (h : ∀ d ∈ l, d < B9) : valD l < B9 ^ l.length := by
  induction l with
  | nil => simp [valD]
  | cons d l ih =>
    have h1 := h d (by simp)
    have h2 := ih (fun x hx => h x (by simp [hx]))
    simp only [valD, List.length_cons, Nat.pow_succ]
    have : B9 * valD l + B9 ≤ B9 * B9 ^ l.length := by
      rw [← Nat.mul_succ]; exact Nat.mul_le_mul_left _ h2
    rw [Nat.mul_comm (B9 ^ l.length)]
    omega
theorem lt_pow_digs (n : Nat) : n < B9 ^ (digsOf n).length := by
  have := valD_lt (digsOf n) (digsOf_lt n)
  rwa [valD_digsOf] at this
theorem digs_le {n k : Nat} (h : n < B9 ^ k) : (digsOf n).length ≤ k := by
  induction k generalizing n with
  | zero =>
    have : n = 0 := by simpa using h
    subst this; simp [digsOf_zero]
  | succ k ih =>
    rcases Nat.eq_zero_or_pos n with rfl | h0
    · simp [digsOf_zero]
    · rw [digsOf_pos h0]
      have : n / B9 < B9 ^ k := Nat.div_lt_of_lt_mul (by rw [Nat.pow_succ, Nat.mul_comm] at h; exact h)
      have := ih this
      simp; omega
theorem digs_mono {a b : Nat} (h : a ≤ b) : (digsOf a).length ≤ (digsOf b).length := digs_le (Nat.lt_of_le_of_lt h (lt_pow_digs b))
theorem digs_mul (a b : Nat) : (digsOf (a * b)).length ≤ (digsOf a).length + (digsOf b).length := by
  refine digs_le ?_
  rw [Nat.pow_add]
  rcases Nat.eq_zero_or_pos a with rfl | ha
  · rw [Nat.zero_mul]; exact Nat.mul_pos (Nat.pow_pos (by decide)) (Nat.pow_pos (by decide))
  · have h1 := lt_pow_digs a
    have h2 := lt_pow_digs b
    exact Nat.lt_of_lt_of_le (Nat.mul_lt_mul_of_pos_left h2 ha) (Nat.mul_le_mul_right _ (Nat.le_of_lt h1))
theorem digs_add (a b : Nat) : (digsOf (a + b)).length ≤ max (digsOf a).length (digsOf b).length + 1 := by
  refine digs_le ?_
  have h1 : a < B9 ^ (max (digsOf a).length (digsOf b).length) := Nat.lt_of_lt_of_le (lt_pow_digs a) (Nat.pow_le_pow_right (by decide) (Nat.le_max_left _ _))
  have h2 : b < B9 ^ (max (digsOf a).length (digsOf b).length) := Nat.lt_of_lt_of_le (lt_pow_digs b) (Nat.pow_le_pow_right (by decide) (Nat.le_max_right _ _))
  rewrite [Nat.pow_succ]
  generalize B9 ^ (max (digsOf a).length (digsOf b).length) = q at *
  show a + b < q * 1000000000
  omega
theorem key_aux (K e v q : Nat) (h1 : e ≤ 4 * K + 294967295) (h2 : v + 5 ≤ 5 * q) (hK : 294967305 < K) : e + K * v + 5 ≤ 5 * (q * K) := by
  have h3 : K * (v + 5) ≤ K * (5 * q) := Nat.mul_le_mul_left _ h2
  rw [Nat.mul_add] at h3
  have h4 : K * (5 * q) = 5 * (q * K) := by rw [Nat.mul_left_comm, Nat.mul_comm K q]
  rw [h4] at h3
  omega
theorem digs_valD (l : List Nat) (h : ∀ d ∈ l, d ≤ 4294967295) : (digsOf (valD l)).length ≤ l.length + 1 := by
  refine digs_le ?_
  have key2 : ∀ m : List Nat, (∀ d ∈ m, d ≤ 4294967295) → valD m + 5 ≤ 5 * B9 ^ m.length := by
    intro m
    induction m with
    | nil => intro _; simp [valD]
    | cons e m ihm =>
      intro hm
      have e1 := hm e (by simp)
      have e2 := ihm (fun x hx => hm x (by simp [hx]))
      rw [valD, List.length_cons, Nat.pow_succ]
      exact key_aux B9 e (valD m) (B9 ^ m.length) (Nat.le_trans e1 (by decide)) e2 (by decide)
  have h1 := key2 l h
  have h2 : 5 * B9 ^ l.length ≤ B9 ^ l.length * B9 := by rw [Nat.mul_comm]; exact Nat.mul_le_mul_left _ (by decide)
  rw [Nat.pow_succ]
  exact Nat.lt_of_lt_of_le (by omega) h2

/-! ### Signed -/
def valI (ng : Bool) (l : List Nat) : Int := if ng then -(valD l : Int) else valD l
theorem valI_abs (ng : Bool) (l : List Nat) : (valI ng l).natAbs = valD l := by unfold valI; split <;> simp
end Go.GL

/-! GL, data: numbers: sums, differences, products by digits. -/
namespace Go.GL

theorem valD_split (l : List Nat) : ∀ k, valD l = valD (l.take k) + B9 ^ k * valD (l.drop k) := by
  induction l with
  | nil => intro k; simp [valD]
  | cons d l ih =>
    intro k
    cases k with
    | zero => simp [valD]
    | succ k =>
      simp only [List.take_succ_cons, List.drop_succ_cons, valD]
      rw [ih k, Nat.mul_add, ← Nat.mul_assoc, Nat.pow_succ, Nat.mul_comm (B9 ^ k) B9]
      omega
theorem valD_append (a b : List Nat) : valD (a ++ b) = valD a + B9 ^ a.length * valD b := by
  have := valD_split (a ++ b) a.length
  simpa using this
theorem valD_zeros (n : Nat) : valD (List.replicate n 0) = 0 := by
  induction n with
  | zero => rfl
  | succ n ih => simp [List.replicate_succ, valD, ih]
theorem valD_drop {l : List Nat} {k d : Nat} (h : l[k]? = some d) : valD (l.drop k) = d + B9 * valD (l.drop (k + 1)) := by
  obtain ⟨hk, rfl⟩ := List.getElem?_eq_some_iff.1 h
  rw [List.drop_eq_getElem_cons hk, valD]
theorem valD_set {l : List Nat} {k d : Nat} (h : l[k]? = some d) (v : Nat) : valD (l.set k v) + d * B9 ^ k = valD l + v * B9 ^ k := by
  obtain ⟨hk, hd⟩ := List.getElem?_eq_some_iff.1 h
  rw [valD_split (l.set k v) k, valD_split l k, List.take_set_of_le (Nat.le_refl _), valD_drop h, valD_drop (l := l.set k v) (d := v) (List.getElem?_set_self hk), List.drop_set_of_lt (by omega)]
  rw [Nat.mul_add, Nat.mul_add, Nat.mul_comm d, Nat.mul_comm v]
  omega
/-- A high digit of a small number. -/
theorem digit_zero {l : List Nat} {j p d : Nat} (h : l[j]? = some d) (hp : p ≤ j) (hv : valD l < B9 ^ p) : d = 0 := by
  rcases Nat.eq_zero_or_pos d with h0 | h0
  · exact h0
  · have h1 := valD_split l j
    rw [valD_drop h, Nat.mul_add] at h1
    have h2 : B9 ^ p ≤ B9 ^ j := Nat.pow_le_pow_right (by decide) hp
    have h3 : B9 ^ j * 1 ≤ B9 ^ j * d := Nat.mul_le_mul_left _ h0
    omega

/-! ### Sums -/
def addL : List Nat → List Nat → List Nat
  | [], b => b
  | a, [] => a
  | x :: a, y :: b => (x + y) :: addL a b
theorem addL_nil (a : List Nat) : addL a [] = a := by cases a <;> rfl
theorem addL_length : ∀ a b : List Nat, (addL a b).length = max a.length b.length
  | [], b => by simp [addL]
  | x :: a, [] => by simp [addL]
  | x :: a, y :: b => by simp only [addL, List.length_cons, addL_length a b]; omega
theorem addL_get : ∀ (a b : List Nat) (i : Nat), i < max a.length b.length → (addL a b)[i]? = some (a[i]?.getD 0 + b[i]?.getD 0)
  | [], b, i, h => by
    have : i < b.length := by simpa using h
    simp [addL, this]
  | x :: a, [], i, h => by
    have : i < (x :: a).length := by simpa using h
    rw [addL_nil, List.getElem?_eq_getElem this]
    simp
  | x :: a, y :: b, i, h => by
    cases i with
    | zero => simp [addL]
    | succ i =>
      simp only [addL, List.getElem?_cons_succ]
      exact addL_get a b i (by simp only [List.length_cons] at h; omega)
theorem addL_val : ∀ a b : List Nat, valD (addL a b) = valD a + valD b
  | [], b => by simp [addL, valD]
  | x :: a, [] => by simp [addL, valD]
  | x :: a, y :: b => by simp only [addL, valD, addL_val a b, Nat.mul_add]; omega

/-! ### Differences -/
def subL : Nat → List Nat → List Nat → List Nat
  | _, [], _ => []
  | c, x :: a, b => (x + B9 - b[0]?.getD 0 - c) % B9 :: subL (1 - (x + B9 - b[0]?.getD 0 - c) / B9) a b.tail
theorem subL_length : ∀ (c : Nat) (a b : List Nat), (subL c a b).length = a.length
  | _, [], _ => rfl
  | c, x :: a, b => by simp [subL, subL_length _ a b.tail]
theorem subL_lt : ∀ (c : Nat) (a b : List Nat), ∀ d ∈ subL c a b, d < B9
  | _, [], _, d, h => by cases h
  | c, x :: a, b, d, h => by
    simp only [subL, List.mem_cons] at h
    rcases h with rfl | h
    · exact Nat.mod_lt _ (by decide)
    · exact subL_lt _ a b.tail d h
theorem sub_step (x y c : Nat) (hx : x < B9) (hy : y < B9) (hc : c ≤ 1) : ∃ c', 1 - (x + B9 - y - c) / B9 = c' ∧ c' ≤ 1 ∧ (x + B9 - y - c) % B9 + y + c = x + c' * B9 := by
  have hB : B9 = 1000000000 := rfl
  rw [hB] at hx hy ⊢
  have hdm := Nat.div_add_mod (x + 1000000000 - y - c) 1000000000
  exact ⟨_, rfl, by omega, by omega⟩
theorem subL_val : ∀ (c : Nat) (a b : List Nat), c ≤ 1 → (∀ d ∈ a, d < B9) → (∀ d ∈ b, d < B9) → b.length ≤ a.length → valD b + c ≤ valD a → valD (subL c a b) + valD b + c = valD a := by
  have key : ∀ (a : List Nat) (c : Nat) (b : List Nat), c ≤ 1 → (∀ d ∈ a, d < B9) → (∀ d ∈ b, d < B9) → b.length ≤ a.length → ∃ c', c' ≤ 1 ∧ valD (subL c a b) + valD b + c = valD a + c' * B9 ^ a.length := by
    intro a
    induction a with
    | nil =>
      intro c b hc _ _ hl
      have : b = [] := List.eq_nil_of_length_eq_zero (by simpa using hl)
      subst this
      exact ⟨c, hc, by simp [subL, valD]⟩
    | cons x a ih =>
      intro c b hc ha hb hl
      have hx := ha x (by simp)
      have hy : b[0]?.getD 0 < B9 := by
        cases b with
        | nil => simp
        | cons y b => simpa using hb y (by simp)
      obtain ⟨c1, e1, e2, e3⟩ := sub_step x (b[0]?.getD 0) c hx hy hc
      obtain ⟨c', h1, h2⟩ := ih c1 b.tail e2 (fun d hd => ha d (by simp [hd])) (fun d hd => hb d (List.mem_of_mem_tail hd)) (by simp only [List.length_cons] at hl; simp; omega)
      refine ⟨c', h1, ?_⟩
      have hb' : valD b = b[0]?.getD 0 + B9 * valD b.tail := by cases b <;> simp [valD]
      simp only [subL, valD, List.length_cons]
      rw [e1, hb', Nat.pow_succ]
      have h3 : B9 * (valD (subL c1 a b.tail) + valD b.tail + c1) = B9 * (valD a + c' * B9 ^ a.length) := by rw [h2]
      rw [Nat.mul_add, Nat.mul_add, Nat.mul_add] at h3
      have h4 : B9 * (c' * B9 ^ a.length) = c' * (B9 ^ a.length * B9) := by rw [Nat.mul_left_comm, Nat.mul_comm B9]
      have h5 : c1 * B9 = B9 * c1 := Nat.mul_comm _ _
      omega
  intro c a b hc ha hb hl hv
  obtain ⟨c', h1, h2⟩ := key a c b hc ha hb hl
  have h3 := valD_lt a ha
  have h4 := valD_lt (subL c a b) (subL_lt c a b)
  rw [subL_length] at h4
  have : c' = 0 := by
    rcases Nat.eq_zero_or_pos c' with h | h
    · exact h
    · have : c' = 1 := by omega
      subst this
      omega
  subst this
  omega

/-! ### Comparing -/
theorem cmp_len {a b : Nat} (h : (digsOf a).length < (digsOf b).length) : a < b := by
  rcases Nat.lt_or_ge a b with h1 | h1
  · exact h1
  · have := digs_mono h1
    omega
theorem cmp_top {A B : List Nat} {k x y : Nat} (ha : ∀ d ∈ A, d < B9) (hA : A[k]? = some x) (hB : B[k]? = some y) (hd : A.drop (k + 1) = B.drop (k + 1)) (h : x < y) : valD A < valD B := by
  rw [valD_split A k, valD_split B k, valD_drop hA, valD_drop hB, hd]
  have hk := (List.getElem?_eq_some_iff.1 hA).1
  have h1 := valD_lt (A.take k) (fun d hd => ha d (List.mem_of_mem_take hd))
  have h2 : (A.take k).length = k := by simp; omega
  rw [h2] at h1
  have h3 : B9 ^ k * (x + B9 * valD (B.drop (k + 1)) + 1) ≤ B9 ^ k * (y + B9 * valD (B.drop (k + 1))) := Nat.mul_le_mul_left _ (by omega)
  rw [Nat.mul_add _ _ 1] at h3
  omega
end Go.GL

/-! GL, data: numbers: products by digits. -/
namespace Go.GL

theorem valD_take_succ (l : List Nat) (k : Nat) : valD (l.take (k + 1)) = valD (l.take k) + l[k]?.getD 0 * B9 ^ k := by
  cases h : l[k]? with
  | none =>
    have := List.getElem?_eq_none_iff.1 h
    rw [List.take_of_length_le (by omega), List.take_of_length_le (by omega)]
    simp
  | some d =>
    have hk := (List.getElem?_eq_some_iff.1 h).1
    have hl : (l.take k).length = k := by simp; omega
    rw [List.take_add_one, h]
    simp only [Option.toList_some, valD_append, valD, hl, Option.getD_some, Nat.mul_zero, Nat.add_zero]
    rw [Nat.mul_comm d]

theorem mul_step {dl Bm : List Nat} {i k c d x m V0 : Nat} (hd : dl[i + k]? = some d) (hm : Bm[k]?.getD 0 = m) (hv : valD dl + c * B9 ^ (i + k) = V0 + x * valD (Bm.take k) * B9 ^ i) :
    valD (dl.set (i + k) ((c + (d + x * m)) % B9)) + (c + (d + x * m)) / B9 * B9 ^ (i + (k + 1)) = V0 + x * valD (Bm.take (k + 1)) * B9 ^ i := by
  have h1 := valD_set hd ((c + (d + x * m)) % B9)
  rw [valD_take_succ, hm]
  obtain ⟨s, hs⟩ : ∃ s, c + (d + x * m) = s := ⟨_, rfl⟩
  rw [hs] at h1 ⊢
  have h2 : s * B9 ^ (i + k) = s / B9 * B9 ^ (i + (k + 1)) + s % B9 * B9 ^ (i + k) := by
    have := Nat.div_add_mod s B9
    have e : B9 ^ (i + (k + 1)) = B9 * B9 ^ (i + k) := by rw [← Nat.add_assoc, Nat.pow_succ, Nat.mul_comm]
    rw [e, ← Nat.mul_assoc, ← Nat.add_mul, Nat.mul_comm (s / B9) B9, this]
  have h3 : s * B9 ^ (i + k) = c * B9 ^ (i + k) + d * B9 ^ (i + k) + x * m * B9 ^ (i + k) := by
    rw [← hs, Nat.add_mul, Nat.add_mul, Nat.add_assoc]
  have h4 : x * (valD (Bm.take k) + m * B9 ^ k) * B9 ^ i = x * valD (Bm.take k) * B9 ^ i + x * m * B9 ^ (i + k) := by
    rw [Nat.mul_add, Nat.add_mul, ← Nat.mul_assoc x m, Nat.mul_assoc (x * m), ← Nat.pow_add, Nat.add_comm k i]
  rw [h4]
  omega

theorem mul_bound {c d x m : Nat} (hc : c < B9) (hd : d < B9) (hx : x < B9) (hm : m < B9) : c + (d + x * m) < 2000000000000000000 ∧ (c + (d + x * m)) / B9 < B9 := by
  have h1 : x * m ≤ 999999999 * 999999999 := Nat.mul_le_mul (by have : B9 = 1000000000 := rfl; omega) (by have : B9 = 1000000000 := rfl; omega)
  have hB : B9 = 1000000000 := rfl
  rw [hB] at hc hd ⊢
  obtain ⟨y, hy⟩ : ∃ y, x * m = y := ⟨_, rfl⟩
  rw [hy] at h1 ⊢
  omega
end Go.GL
