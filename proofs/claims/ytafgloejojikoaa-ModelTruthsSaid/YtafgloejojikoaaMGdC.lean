/-
  GL, data: rows of digits: what the program's arithmetic makes of them.
-/
import Derived.Test.YtafgloejojikoaaMGdB
set_option linter.unusedSimpArgs false
set_option linter.unusedVariables false
/-! GL, data: rows of digits: what the program's arithmetic makes of them. -/
namespace Go.GL

def dig64 (l : List Nat) : List PV := l.map fun (d : Nat) => .int .u64 d
@[simp] theorem dig64_length (l : List Nat) : (dig64 l).length = l.length := by simp [dig64]
@[simp high] theorem dig64_get (l : List Nat) (i : Nat) : (dig64 l)[i]? = (l[i]?).map fun (d : Nat) => PV.int .u64 d := by simp [dig64]

abbrev B9 : Nat := 1000000000

/-- Digits carried on. -/
def carryD : Nat → List Nat → List Nat
  | c, d :: ds => (c + d) % B9 :: carryD ((c + d) / B9) ds
  | 0, [] => []
  | c + 1, [] => (c + 1) % B9 :: carryD ((c + 1) / B9) []
termination_by c l => (l.length, c)
decreasing_by
  · exact Prod.Lex.left _ _ (by simp)
  · exact Prod.Lex.right _ (Nat.div_lt_self (by omega) (by decide))

theorem carryD_nil {c : Nat} (h : 0 < c) : carryD c [] = c % B9 :: carryD (c / B9) [] := by
  cases c with
  | zero => omega
  | succ c => rw [carryD]

theorem carryD_eq {c : Nat} {l : List Nat} (h : 0 < l.length ∨ 0 < c) : carryD c l = (c + l[0]?.getD 0) % B9 :: carryD ((c + l[0]?.getD 0) / B9) l.tail := by
  cases l with
  | cons d ds => simp [carryD]
  | nil => simp at h; rw [carryD_nil h]; simp

/-- No noughts at the end. -/
def trimD (l : List Nat) : List Nat := (l.reverse.dropWhile fun d => decide (d = 0)).reverse

theorem trimD_last {l : List Nat} (h : l ≠ []) : trimD l = if l.getLast h = 0 then trimD l.dropLast else l := by
  obtain ⟨m, d, rfl⟩ : ∃ m d, l = m ++ [d] := ⟨l.dropLast, l.getLast h, (List.dropLast_concat_getLast h).symm⟩
  simp only [List.getLast_concat, List.dropLast_concat, trimD, List.reverse_append, List.reverse_cons, List.reverse_nil, List.nil_append, List.singleton_append, List.dropWhile_cons]
  by_cases hd : d = 0
  · simp [hd]
  · simp [hd]

/-- Digits of a number of the program's. -/
def normD (l : List Nat) : List Nat := trimD (carryD 0 l)

theorem drop_tail (l : List Nat) (i : Nat) : (l.drop i).tail = l.drop (i + 1) := by simp

/-- How great a carry grows. -/
theorem carry_lt {c d M : Nat} (hc : c ≤ M) (hd : d ≤ M) (hM : 1 ≤ M) : (c + d) / B9 ≤ M := by
  have : (c + d) / B9 ≤ (M + M) / B9 := Nat.div_le_div_right (by omega)
  have h2 : (M + M) / B9 ≤ M := Nat.div_le_of_le_mul (by show M + M ≤ 1000000000 * M; omega)
  omega
theorem carryD_length0 {c : Nat} (h : c < 1000000000000000000000000000) : (carryD c []).length ≤ 3 := by
  rcases Nat.eq_zero_or_pos c with rfl | h0
  · simp [carryD]
  rw [carryD_nil h0]
  rcases Nat.eq_zero_or_pos (c / B9) with h1 | h1
  · rw [h1]; simp [carryD]
  rw [carryD_nil h1]
  rcases Nat.eq_zero_or_pos (c / B9 / B9) with h2 | h2
  · rw [h2]; simp [carryD]
  rw [carryD_nil h2]
  have h3 : c / B9 / B9 / B9 = 0 := by
    rw [Nat.div_div_eq_div_mul, Nat.div_div_eq_div_mul]
    exact Nat.div_eq_of_lt (by show c < 1000000000 * (1000000000 * 1000000000); omega)
  rw [h3]
  simp [carryD]
theorem carryD_length {M : Nat} (hM : 1 ≤ M) (hM2 : M < 1000000000000000000000000000) : ∀ (l : List Nat) (c : Nat), c ≤ M → (∀ d ∈ l, d ≤ M) → (carryD c l).length ≤ l.length + 3
  | [], c, hc, _ => by
    have := carryD_length0 (c := c) (by omega)
    simpa using this
  | d :: ds, c, hc, hd => by
    rw [carryD]
    have := carryD_length hM hM2 ds ((c + d) / B9) (carry_lt hc (hd d List.mem_cons_self) hM) (fun x hx => hd x (List.mem_cons_of_mem _ hx))
    simp
    omega
end Go.GL
