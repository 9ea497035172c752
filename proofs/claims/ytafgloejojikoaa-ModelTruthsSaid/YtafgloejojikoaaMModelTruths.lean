/-
  ModelTruths: the law, closed.
-/
import Derived.Test.YtafgloejojikoaaMGl53
import Derived.Test.YtafgloejojikoaaMGlAa
import Derived.SizedLaws
import Derived.Test.YtafgloejojikoaaRows
set_option linter.unusedSimpArgs false
set_option linter.unusedVariables false
/-! ModelTruths: the law, closed. -/
namespace Go.GL.Seat
open Go.Proofs
set_option maxRecDepth 100000

mutual
theorem szV_of : ∀ (v : Vl), pmax v.enc ≤ BG → szV v
  | .mk k ng df ds tr nm ff fs, h => by
    simp only [Vl.enc, pmax, pmaxL, Nat.max_le, dig_length, encVs_length] at h
    exact ⟨h.2.2.1.1, h.2.2.2.2.1, h.2.2.2.2.2.1.1, szVs_of fs h.2.2.2.2.2.1.2⟩
theorem szVs_of : ∀ (l : List Vl), pmaxL (encVs l) ≤ BG → szVs l
  | [], _ => trivial
  | v :: l, h => by
    simp only [encVs, pmaxL, Nat.max_le] at h
    exact ⟨szV_of v h.1, szVs_of l h.2⟩
end
mutual
theorem szT_of : ∀ (v : Tm), pmax v.enc ≤ BG → szT v
  | .mk k nm ng df ds kf ks, h => by
    simp only [Tm.enc, pmax, pmaxL, Nat.max_le, dig_length, encs_length] at h
    exact ⟨h.2.2.2.1.1, h.2.1, h.2.2.2.2.1.1, szTs_of ks h.2.2.2.2.1.2⟩
theorem szTs_of : ∀ (l : List Tm), pmaxL (encs l) ≤ BG → szTs l
  | [], _ => trivial
  | v :: l, h => by
    simp only [encs, pmaxL, Nat.max_le] at h
    exact ⟨szT_of v h.1, szTs_of l h.2⟩
end
theorem szB_of (b : Bd) (h : pmax b.enc ≤ BG) : szB b := by
  obtain ⟨nm, v⟩ := b
  simp only [Bd.enc, pmax, pmaxL, Nat.max_le] at h
  refine ⟨h.1, szV_of v ?_⟩
  obtain ⟨k, ng, df, ds, tr, vn, ff, fs⟩ := v
  simp only [Vl.enc, pmax, cellsOf] at h ⊢
  exact h.2
theorem szD_of (d : Dt) (h : pmax d.enc ≤ BG) : szD d := by
  obtain ⟨nm, cf, cs⟩ := d
  simp only [Dt.enc, pmax, pmaxL, Nat.max_le, encC_len] at h
  refine ⟨h.1, h.2.1.1, fun c hc => ?_⟩
  have hm := pmaxL_mem h.2.1.2 (List.mem_map.2 ⟨c, hc, rfl⟩)
  obtain ⟨cn, cff, cfs⟩ := c
  simp only [Cn.enc, pmax, pmaxL, Nat.max_le, encF_len] at hm
  exact ⟨hm.1, hm.2.1.1⟩
theorem rb_le : reachBytes ≤ BG := by decide
end Go.GL.Seat

namespace Go.Proofs.Ytafgloejojikoaa.modelTruths
open Go.ChangeShapes Go.WideShapes Go.ChangeAt Go.RowKit Go.GL Go.GL.Seat
set_option linter.unusedVariables false
set_option maxRecDepth 100000

theorem own : ownKnob Try.prog.godebug = none := by kernel_rfl

def G3 : Nat → Bool := fun t => t == 4 || t == 9 || t == 27 || t == 113 || t == 29 || t == 32 || t == 30 || t == 26 || t == 41 || t == 129 || t == 127 || t == 126 || t == 120 || t == 42 || t == 71 || t == 48 || t == 46 || t == 45
theorem good : ∀ t, G3 t = true → ∃ ti, tab t = some ti ∧ goodTI tab G3 ti = true := by
  intro t h
  simp only [G3, Bool.or_eq_true, beq_iff_eq] at h
  rcases h with (((((((((((((((((rfl | rfl) | rfl) | rfl) | rfl) | rfl) | rfl) | rfl) | rfl) | rfl) | rfl) | rfl) | rfl) | rfl) | rfl) | rfl) | rfl) | rfl)
  · exact ⟨_, tab_4, by kernel_rfl⟩
  · exact ⟨_, tab_9, by kernel_rfl⟩
  · exact ⟨_, tab_27, by kernel_rfl⟩
  · exact ⟨_, tab_113, by kernel_rfl⟩
  · exact ⟨_, tab_29, by kernel_rfl⟩
  · exact ⟨_, tab_32, by kernel_rfl⟩
  · exact ⟨_, tab_30, by kernel_rfl⟩
  · exact ⟨_, tab_26, by kernel_rfl⟩
  · exact ⟨_, tab_41, by kernel_rfl⟩
  · exact ⟨_, tab_129, by kernel_rfl⟩
  · exact ⟨_, tab_127, by kernel_rfl⟩
  · exact ⟨_, tab_126, by kernel_rfl⟩
  · exact ⟨_, tab_120, by kernel_rfl⟩
  · exact ⟨_, tab_42, by kernel_rfl⟩
  · exact ⟨_, tab_71, by kernel_rfl⟩
  · exact ⟨_, tab_48, by kernel_rfl⟩
  · exact ⟨_, tab_46, by kernel_rfl⟩
  · exact ⟨_, tab_45, by kernel_rfl⟩

theorem pars : Try.f4.params.toList = [41, 42, 32, 32] := by kernel_rfl

theorem told {xs : List PV} (hl : xs.length = Try.f4.params.toList.length) (ht : ∀ (j : Nat) t p, Try.f4.params.toList[j]? = some t → xs[j]? = some p → HasT tab t p) (hz : ∀ a ∈ xs, pmax a ≤ reachBytes) :
    ∃ H', E.call 4 1 xs [[]] = some (.ret (.bool true), H') := by
  rw [pars] at hl ht
  obtain ⟨a, b, c, d, rfl⟩ := list4 hl
  have z : ∀ x ∈ [a, b, c, d], pmax x ≤ BG := fun x hx => Nat.le_trans (hz x hx) rb_le
  obtain ⟨fd, ds, rfl⟩ := has_datas (ht 0 _ a rfl rfl)
  obtain ⟨fb, bs, rfl, hb⟩ := has_bounds (ht 1 _ b rfl rfl)
  obtain ⟨s, rfl, hs⟩ := has_tm (ht 2 _ c rfl rfl)
  obtain ⟨t, rfl, htt⟩ := has_tm (ht 3 _ d rfl rfl)
  have z0 := z (.lst fd (encD ds)) (by simp)
  have z1 := z (.lst fb (encB bs)) (by simp)
  simp only [pmax, Nat.max_le, encD_len] at z0
  simp only [pmax, Nat.max_le, encB_len] at z1
  exact ⟨[[]], truths_call fd fb ds bs s t [[]] (by simp) 1 (fun x hx => szD_of x (pmaxL_mem z0.2 (List.mem_map.2 ⟨x, hx, rfl⟩))) z0.1 (fun x hx => szB_of x (pmaxL_mem z1.2 (List.mem_map.2 ⟨x, hx, rfl⟩))) z1.1 (szT_of s (z _ (by simp))) (szT_of t (z _ (by simp))) hb hs htt⟩

theorem laid : laidOutB Try.prog = true := by kernel_rfl

theorem lifted (os : Os) (started : os.Started) (H : Type) (enc : TypeId × Value → H) :
    ReturnsInHanded {} Try.checked os 4 .any (Rows.modelTruthsSpec.pre6 enc Try.prog Try.f4 Rows.modelTruthsRow.domain false) (Rows.modelTruthsSpec.post enc Try.prog Try.f4 false true false false) := by
  refine returnsInHanded_of_change_sized (C := Try.checked) own started (by kernel_rfl) Try.func4
    (ChangeSpec.witness6 (enc := enc) (C := Try.checked) false ⟨#[], #[.slice none 0 0, .slice none 0 0, .agg #[.int .u8 0, .string ⟨#[]⟩, .bool false, .slice none 0 0, .slice none 0 0], .agg #[.int .u8 0, .string ⟨#[]⟩, .bool false, .slice none 0 0, .slice none 0 0]], []⟩ 8 (by kernel_rfl) (by kernel_rfl) (by kernel_rfl) (by kernel_rfl)) ?_
  intro W base args ds gs before hval0 hW hcnd hwt _
  have hval : ∀ (j : Nat) t v, Try.f4.params[j]? = some t → args[j]? = some v → Value.okWide Try.prog W .any base t v := hval0
  have hW' := hW
  obtain ⟨p, q, hA0, hV, rfl, hfz, hnd⟩ := hW
  have hA : DataW.TrodAll enc Try.prog W 0 (fun _ => true) true Try.f4.params.toList args.toList ds p := hA0
  obtain ⟨d1, d2, d3, d4, rfl⟩ : ∃ d1 d2 d3 d4, ds = [d1, d2, d3, d4] := by
    rw [pars] at hA
    obtain ⟨v0, vs0, d0, ds0, p0, q0, _, rfl, rfl, _, r0⟩ := trodAll_cons hA
    obtain ⟨v1, vs1, d1, ds1, p1, q1, _, rfl, rfl, _, r1⟩ := trodAll_cons r0
    obtain ⟨v2, vs2, d2, ds2, p2, q2, _, rfl, rfl, _, r2⟩ := trodAll_cons r1
    obtain ⟨v3, vs3, d3, ds3, p3, q3, _, rfl, rfl, _, r3⟩ := trodAll_cons r2
    obtain ⟨_, rfl, rfl⟩ := trodAll_nil r3
    exact ⟨_, _, _, _, rfl⟩
  have hfit : ∀ w ∈ DataW.weightsEach Try.prog Try.f4.params.toList [d1, d2, d3, d4], w ≤ reachBytes := by
    intro w hw
    have hwt2 := List.all_eq_true.1 hwt w ?_
    · simpa using hwt2
    · rw [pars] at hw ⊢
      simp only [List.cons_append, List.nil_append, DataW.weightsEach, List.mem_append] at hw ⊢
      rcases hw with h | h | h | h | h
      · exact .inl h
      · exact .inr (.inl h)
      · exact .inr (.inr (.inl h))
      · exact .inr (.inr (.inr (.inl h)))
      · cases h
  refine (law_calls tok E_ok good Try.func4 rfl (by kernel_rfl) (by rw [pars]; simp [G3]) hA hval (fun xs h1 h2 _ h3 => told h1 h2 (h3 hfit))).mono fun e W' ⟨he, hb⟩ => ?_
  subst he
  exact ⟨_, rfl, law_post laid (by
    rw [pars]
    intro t ht
    simp at ht
    rcases ht with rfl | rfl | rfl
    · exact ⟨by kernel_rfl, of_decide_eq_true (by kernel_rfl)⟩
    · exact ⟨by kernel_rfl, of_decide_eq_true (by kernel_rfl)⟩
    · exact ⟨by kernel_rfl, of_decide_eq_true (by kernel_rfl)⟩) hW' rfl ⟨rfl, rfl, rfl⟩ (by kernel_rfl) Try.underlying4 hb⟩

theorem over : Rows.modelTruthsRow.holds Try.pinned (OpenSpec.ofChange Rows.modelTruthsSpec) :=
  OpenClaim.holds_of_wide 4 Try.f4 rfl rfl rfl rfl rfl rfl rfl ⟨rfl, rfl, rfl, rfl, rfl⟩ rfl rfl rfl rfl rfl (by kernel_rfl) Try.func4 (by kernel_rfl)
    (of_decide_eq_true (by kernel_rfl)) (by unfold Func.isWrapper; first | (rw [if_pos (by decide +kernel)]; kernel_rfl) | (rw [if_neg (by decide +kernel)]; exact ⟨rfl, rfl⟩))
    (fun os started H enc _ => lifted os started H enc)

/-- ████ THE STATEMENT ████ -/
theorem proved : Rows.ModelTruthsSaid :=
  over
end Go.Proofs.Ytafgloejojikoaa.modelTruths
