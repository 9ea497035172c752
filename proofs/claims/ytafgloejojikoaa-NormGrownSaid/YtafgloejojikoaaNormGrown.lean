/-
  NormGrown: the law of towers, closed.
-/
import Derived.Test.YtafgloejojikoaaGl41
import Derived.Test.YtafgloejojikoaaRows
set_option linter.unusedSimpArgs false
set_option linter.unusedVariables false
/-! NormGrown: the law of towers, closed. -/
namespace Go.Proofs.Ytafgloejojikoaa.normGrown
open Go.ChangeShapes Go.WideShapes Go.ChangeAt Go.RowKit Go.GL Go.GL.Seat
set_option linter.unusedVariables false
set_option maxRecDepth 100000

theorem own : ownKnob Try.prog.godebug = none := by kernel_rfl

def G3 : Nat → Bool := fun t => t == 3 || t == 4
theorem good : ∀ t, G3 t = true → ∃ ti, tab t = some ti ∧ goodTI tab G3 ti = true := by
  intro t h
  simp only [G3, Bool.or_eq_true, beq_iff_eq] at h
  rcases h with rfl | rfl
  · exact ⟨_, tab_3, rfl⟩
  · exact ⟨_, tab_4, rfl⟩

theorem told {xs : List PV} (hl : xs.length = Try.f3.params.toList.length) (ht : ∀ (j : Nat) t p, Try.f3.params.toList[j]? = some t → xs[j]? = some p → HasT tab t p) :
    ∃ H', E.call 3 1 xs [[]] = some (.ret (.bool true), H') := by
  have hp : Try.f3.params.toList = [3, 4] := by kernel_rfl
  rw [hp] at hl ht
  obtain ⟨a, b, rfl⟩ : ∃ a b, xs = [a, b] := by
    match xs, hl with
    | [a, b], _ => exact ⟨a, b, rfl⟩
  have h0 := ht 0 _ a rfl rfl
  have h1 := ht 1 _ b rfl rfl
  obtain ⟨x, rfl, hx⟩ := has_int h0 tab_3 rfl
  obtain ⟨y, rfl⟩ := has_bool h1 tab_4 rfl
  refine ⟨[[]], grown_call x y [[]] (by simp) (by simp) ?_ (fun L1 => awake_call _ (by simp) (by simp))⟩
  simpa [Lit.wf, IntKind.min, IntKind.max, IntKind.signed, IntKind.bits] using hx

theorem laid : laidOutB Try.prog = true := by kernel_rfl

theorem lifted (os : Os) (started : os.Started) (H : Type) (enc : TypeId × Value → H) :
    ReturnsInHanded {} Try.checked os 3 .any (Rows.normGrownSpec.pre6 enc Try.prog Try.f3 Rows.normGrownRow.domain false) (Rows.normGrownSpec.post enc Try.prog Try.f3 false true false false) := by
  refine returnsInHanded_of_change (C := Try.checked) own started (by kernel_rfl) Try.func3
    (ChangeSpec.witness6 (enc := enc) (C := Try.checked) false ⟨#[], #[.int .i64 0, .bool false], []⟩ 8 (by kernel_rfl) (by kernel_rfl) (by kernel_rfl) (by kernel_rfl)) ?_
  intro W base args ds gs before hval0 hW hcnd _
  have hval : ∀ (j : Nat) t v, Try.f3.params[j]? = some t → args[j]? = some v → Value.okWide Try.prog W .any base t v := hval0
  have hW' := hW
  obtain ⟨p, q, hA0, hV, rfl, hfz, hnd⟩ := hW
  have hA : DataW.TrodAll enc Try.prog W 0 (fun _ => true) true Try.f3.params.toList args.toList ds p := hA0
  refine (law_calls tok E_ok good Try.func3 rfl (by kernel_rfl) (by rw [show Try.f3.params.toList = [3, 4] from by kernel_rfl]; simp [G3]) hA hval (fun xs h1 h2 _ => told h1 h2)).mono fun e W' ⟨he, hb⟩ => ?_
  subst he
  obtain ⟨d1, d2, rfl⟩ : ∃ d1 d2, ds = [d1, d2] := by
    rw [show Try.f3.params.toList = [3, 4] from by kernel_rfl] at hA
    obtain ⟨v0, vs0, d0, ds0, p0, q0, _, rfl, rfl, _, r0⟩ := trodAll_cons hA
    obtain ⟨v1, vs1, d1, ds1, p1, q1, _, rfl, rfl, _, r1⟩ := trodAll_cons r0
    obtain ⟨_, rfl, rfl⟩ := trodAll_nil r1
    exact ⟨_, _, rfl⟩
  exact ⟨_, rfl, law_post laid (by
    rw [show Try.f3.params.toList = [3, 4] from by kernel_rfl]
    intro t ht
    simp at ht
    rcases ht with rfl | rfl
    · exact ⟨by kernel_rfl, of_decide_eq_true (by kernel_rfl)⟩
    · exact ⟨by kernel_rfl, of_decide_eq_true (by kernel_rfl)⟩) hW' rfl ⟨rfl, rfl, rfl⟩ (by kernel_rfl) Try.underlying4 hb⟩

theorem over : Rows.normGrownRow.holds Try.pinned (OpenSpec.ofChange Rows.normGrownSpec) :=
  OpenClaim.holds_of_wide 3 Try.f3 rfl rfl rfl rfl rfl rfl rfl ⟨rfl, rfl, rfl, rfl, rfl⟩ rfl rfl rfl rfl rfl (by kernel_rfl) Try.func3 (by kernel_rfl)
    (of_decide_eq_true (by kernel_rfl)) (by unfold Func.isWrapper; first | (rw [if_pos (by decide +kernel)]; kernel_rfl) | (rw [if_neg (by decide +kernel)]; exact ⟨rfl, rfl⟩))
    (fun os started H enc _ => lifted os started H enc)

/-- ████ THE STATEMENT ████ -/
theorem proved : Rows.NormGrownSaid :=
  over
end Go.Proofs.Ytafgloejojikoaa.normGrown
