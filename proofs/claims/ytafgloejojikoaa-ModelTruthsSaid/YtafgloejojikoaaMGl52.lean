/-
  Walks, mJ: what terms come to (package model).
  Walks, mK: what arguments of api's types are.
  Walks, mL: parts counted (package whetstonekit).
-/
import Derived.Test.YtafgloejojikoaaMGmH
import Derived.Test.YtafgloejojikoaaMGmI
import Derived.Test.YtafgloejojikoaaMGl40
set_option linter.unusedSimpArgs false
set_option linter.unusedVariables false
/-! Walks, mJ: what terms come to (package model). -/
namespace Go.GL.Seat
open Go.Proofs
set_option maxRecDepth 100000
set_option maxHeartbeats 16000000

theorem Eval1_call {wl : Nat} (fd : Bool) (ds : List Dt) (fb : Bool) (bs : List Bd) (nm : ByteArray) (ng df : Bool) (dg : List Nat) (kf : Bool) (ks : List Tm) (hks : ks ≠ []) (H : Heap) (hH : 0 < H.length) :
    E.call 16 wl [.lst fd (encD ds), .lst fb (encB bs), (Tm.mk 1 nm ng df dg kf ks).enc] H = some (.ret (resP (.error 24)), H) := by
  refine (E_call Try.func16 rfl rfl (by kernel_rfl) rfl _ (by exact Nat.le_of_ble_eq_true rfl) H).trans ?_
  have hl2 : ((ks.length : Int) == 0) = false := by rw [beq_eq_false_iff_ne]; have := List.length_pos_iff.2 hks; omega
  simp only [Tm.enc, resP, zero0_enc]
  simp [Try.f16, hH, hks, hl2]

theorem EvalO_call {wl : Nat} (fd : Bool) (ds : List Dt) (fb : Bool) (bs : List Bd) (k : Nat) (nm : ByteArray) (ng df : Bool) (dg : List Nat) (kf : Bool) (ks : List Tm) (hk : many k = none) (H : Heap) (hH : 0 < H.length) :
    E.call 16 wl [.lst fd (encD ds), .lst fb (encB bs), (Tm.mk k nm ng df dg kf ks).enc] H = some (.ret (resP (.error 23)), H) := by
  refine (E_call Try.func16 rfl rfl (by kernel_rfl) rfl _ (by exact Nat.le_of_ble_eq_true rfl) H).trans ?_
  have hn : ∀ j : Nat, (many j).isSome = true → k ≠ j := by rintro j hj rfl; rw [hk] at hj; cases hj
  have n1 := hn 1 rfl
  have n2 := hn 2 rfl
  have n3 := hn 3 rfl
  have n4 := hn 4 rfl
  have n5 := hn 5 rfl
  have n6 := hn 6 rfl
  have n7 := hn 7 rfl
  have n8 := hn 8 rfl
  have n9 := hn 9 rfl
  have n10 := hn 10 rfl
  have n11 := hn 11 rfl
  have n12 := hn 12 rfl
  have n13 := hn 13 rfl
  obtain ⟨kk, hkk⟩ : ∃ kk : Int, (k : Int) = kk := ⟨_, rfl⟩
  simp only [Tm.enc, resP, zero0_enc, hkk]
  have m1 : ¬ kk = 1 := by omega
  have m2 : ¬ kk = 2 := by omega
  have m3 : ¬ kk = 3 := by omega
  have m4 : ¬ kk = 4 := by omega
  have m5 : ¬ kk = 5 := by omega
  have m6 : ¬ kk = 6 := by omega
  have m7 : ¬ kk = 7 := by omega
  have m8 : ¬ kk = 8 := by omega
  have m9 : ¬ kk = 9 := by omega
  have m10 : ¬ kk = 10 := by omega
  have m11 : ¬ kk = 11 := by omega
  have m12 : ¬ kk = 12 := by omega
  have m13 : ¬ kk = 13 := by omega
  have c : ∀ a : Int, ¬ kk = a → (kk == a) = false := fun a h => by rw [beq_eq_false_iff_ne]; exact h
  simp [Try.f16, hH, m1, c 1 m1, m2, c 2 m2, m3, c 3 m3, m4, c 4 m4, m5, c 5 m5, m6, c 6 m6, m7, c 7 m7, m8, c 8 m8, m9, c 9 m9, m10, c 10 m10, m11, c 11 m11, m12, c 12 m12, m13, c 13 m13]

theorem okEs_mem {l : List Tm} (h : okEs l) {t : Tm} (ht : t ∈ l) : okE t := by
  induction l with
  | nil => cases ht
  | cons x l ih =>
    rcases List.mem_cons.1 ht with rfl | ht
    · exact h.1
    · exact ih h.2 ht
theorem fBs_mem {D : Nat} {l : List Tm} {t : Tm} (h : t ∈ l) : fB D t ≤ fBs D l := by
  induction l with
  | nil => cases h
  | cons x l ih =>
    simp only [fBs]
    rcases List.mem_cons.1 h with rfl | h
    · omega
    · have := ih h; omega
theorem szs_mem {l : List Tm} {t : Tm} (h : t ∈ l) : t.size ≤ sizes l := by
  induction l with
  | nil => cases h
  | cons x l ih =>
    rcases List.mem_cons.1 h with rfl | h
    · simp [sizes]
    · have := ih h; simp [sizes]; omega
theorem absSum_absV (l : List Vl) : absSum (l.map numVl) = absV l := by
  simp [absSum, absV, numVl_val, Function.comp_def]

theorem one_of {l : List Vl} {n : Nat} (h : l.length = n) (hn : n = 1) : ∃ v, l = [v] := by
  match l, h with
  | [v], _ => exact ⟨v, rfl⟩
  | [], h => simp at h; omega
  | _ :: _ :: _, h => simp at h; omega
theorem two_of {l : List Vl} {n : Nat} (h : l.length = n) (hn : n = 2) : ∃ a b, l = [a, b] := by
  match l, h with
  | [a, b], _ => exact ⟨a, b, rfl⟩
  | [], h => simp at h; omega
  | [_], h => simp at h; omega
  | _ :: _ :: _ :: _, h => simp at h; omega
theorem opt_if (b : Bool) (u : Vl) : (if b = true then some u else none) = if b then some u else none := rfl

theorem Eval_call (D : Nat) (hD : 2 ≤ D) {wl : Nat} (fd : Bool) (ds : List Dt) (fb : Bool) (bs : List Bd) (hds : okD ds) (hbl : bs.length < 1000000000) (hbs : ∀ b ∈ bs, okV D b.v) (hDM : D < 10000000) (n : Nat) :
    ∀ (t : Tm) (H : Heap), t.size ≤ n → okE t → fB D t < 10000000 → 0 < H.length → E.call 16 wl [.lst fd (encD ds), .lst fb (encB bs), t.enc] H = some (.ret (resP (evalS ds bs t)), H) := by
  induction n using Nat.strongRecOn with
  | _ n ih =>
  intro t H hn hok hfb hH
  obtain ⟨k, nm, ng, df, dg, kf, ks⟩ := t
  simp only [Tm.size] at hn
  obtain ⟨o1, o2, o3, o4, o5⟩ := hok
  simp only [fB] at hfb
  by_cases hvar : k = 1 ∧ ks.length = 0
  · obtain ⟨rfl, hks⟩ := hvar
    have hks := List.eq_nil_of_length_eq_zero hks
    subst hks
    have := EvalVar_call D (by omega) (wl := wl) fd ds fb bs (.mk 1 nm ng df dg kf []) hds hbl hbs rfl rfl H hH
    rw [this, evalS, if_pos ⟨rfl, rfl⟩]
    rfl
  have hev : evalS ds bs (.mk k nm ng df dg kf ks) = match many k with
      | none => .error 23
      | some m => kRes ds bs m k nm ng dg ks := by
    rw [evalS, if_neg hvar]
    cases many k with
    | none => rfl
    | some m => rfl
  rw [hev]
  cases hm : many k with
  | none => exact EvalO_call fd ds fb bs k nm ng df dg kf ks hm H hH
  | some m =>
  have hih : ∀ t ∈ ks, ∀ L1 : List Blk, E.call 16 wl [.lst fd (encD ds), .lst fb (encB bs), t.enc] (L1 :: H) = some (.ret (resP (evalS ds bs t)), L1 :: H) := fun t ht L1 =>
    ih t.size (by have := szs_mem ht; omega) t (L1 :: H) (Nat.le_refl _) (okEs_mem o5 ht) (by have := fBs_mem (D := D) ht; omega) (by simp)
  have hgood : ∀ l, evalsS ds bs ks = .ok l → (∀ v ∈ l, goodV ds (fBs D ks) v) ∧ (digsOf (absV l)).length ≤ fBs D ks := fun l hl => evals_ok hds hD hbs ks hl
  have hM : fBs D ks < 10000000 := by omega
  have hw : ∀ (lf : Bool) (l : List Vl), (Wk.mk fd ds k nm ng df dg kf ks lf l).enc = .agg [.lst fd (encD ds), .int .u8 k, .str nm, .bool ng, .lst df (dig dg), .lst kf (encs ks), .lst lf (encVs l)] := fun _ _ => rfl
  have hkk : k = 1 ∨ k = 2 ∨ k = 3 ∨ k = 4 ∨ k = 5 ∨ k = 6 ∨ k = 7 ∨ k = 8 ∨ k = 9 ∨ k = 10 ∨ k = 11 ∨ k = 12 ∨ k = 13 := by
    unfold many at hm
    by_cases h1 : k = 1 ∨ k = 2 ∨ k = 3 ∨ k = 4
    · omega
    · rw [if_neg h1] at hm
      by_cases h2 : k = 6 ∨ k = 7 ∨ k = 10
      · omega
      · rw [if_neg h2] at hm
        by_cases h3 : k = 8 ∨ k = 9 ∨ k = 13
        · omega
        · rw [if_neg h3] at hm
          by_cases h4 : k = 5 ∨ k = 11 ∨ k = 12
          · omega
          · rw [if_neg h4] at hm; cases hm
  rcases hkk with rfl | rfl | rfl | rfl | rfl | rfl | rfl | rfl | rfl | rfl | rfl | rfl | rfl
  · have hks : ks ≠ [] := fun h => hvar ⟨rfl, by rw [h]; rfl⟩
    injection hm with hm
    subst hm
    rw [Eval1_call fd ds fb bs nm ng df dg kf ks hks H hH]
    have : manyOk (some 0) ks.length = false := by
      have := List.length_pos_iff.2 hks
      unfold manyOk
      exact decide_eq_false (by omega)
    show _ = some (Out.ret (resP (kRes ds bs (some 0) 1 nm ng dg ks)), H)
    unfold kRes
    rw [if_pos this]
  · injection hm with hm
    subst hm
    exact Eval2_call _ hM fd ds fb bs nm ng df dg kf ks hds o4 hgood H hH (fun _ l hl hg => ⟨numV (valI ng dg), rightN ng dg, fun lf w2 L1 => literal_call (wl := w2) (Wk.mk fd ds 2 nm ng df dg kf ks lf l) (by show dg.length < _; omega) o3 (L1 :: H) (by simp), rfl⟩) hih
  · injection hm with hm
    subst hm
    exact Eval3_call _ hM fd ds fb bs nm ng df dg kf ks hds o4 hgood H hH (fun _ l hl hg => ⟨truthV true, true, fun lf w2 L1 => yes_call (wl := w2) (Wk.mk fd ds 3 nm ng df dg kf ks lf l) (L1 :: H) (by simp), rfl⟩) hih
  · injection hm with hm
    subst hm
    exact Eval4_call _ hM fd ds fb bs nm ng df dg kf ks hds o4 hgood H hH (fun _ l hl hg => ⟨truthV false, true, fun lf w2 L1 => no_call (wl := w2) (Wk.mk fd ds 4 nm ng df dg kf ks lf l) (L1 :: H) (by simp), rfl⟩) hih
  · injection hm with hm
    subst hm
    exact Eval5_call _ hM fd ds fb bs nm ng df dg kf ks hds o4 hgood H hH (fun _ l hl hg => ⟨numV (sumV l), allV 1 l, fun lf w2 L1 => sum_call (wl := w2) (fBs D ks) (by omega) (Wk.mk fd ds 5 nm ng df dg kf ks lf l) (by show l.length < _; rw [evals_len hl]; exact o4) (fun v hv => (hg.1 v hv).2) (by
      show lenN (absSum (l.map numVl)) < _
      rw [absSum_absV]
      unfold lenN
      omega) (L1 :: H) (by simp), rfl⟩) hih
  · injection hm with hm
    subst hm
    exact Eval6_call _ hM fd ds fb bs nm ng df dg kf ks hds o4 hgood H hH (fun hmo l hl hg => by
      obtain ⟨v, rfl⟩ := one_of (evals_len hl) (of_decide_eq_true hmo).symm
      exact ⟨numV (sumV [v] * valI ng dg), allV 1 [v] && rightN ng dg, fun lf w2 L1 => product_call (wl := w2) (fBs D ks) hM (Wk.mk fd ds 6 nm ng df dg kf ks lf [v]) v rfl (hg.1 v (by simp)).2 (by show dg.length < _; omega) o3 (L1 :: H) (by simp), rfl⟩) hih
  · injection hm with hm
    subst hm
    exact Eval7_call _ hM fd ds fb bs nm ng df dg kf ks hds o4 hgood H hH (fun hmo l hl hg => by
      obtain ⟨v, rfl⟩ := one_of (evals_len hl) (of_decide_eq_true hmo).symm
      have hf := some_formed (hg.1 v (by simp)).1
      exact ⟨(applyR ds nm v).1, (applyR ds nm v).2, fun lf w2 L1 => applied_call (wl := w2) (Wk.mk fd ds 7 nm ng df dg kf ks lf [v]) v rfl hds (by show nm.size < _; omega) hf (L1 :: H) (by simp), applyR_S hf⟩) hih
  · injection hm with hm
    subst hm
    exact Eval8_call _ hM fd ds fb bs nm ng df dg kf ks hds o4 hgood H hH (fun hmo l hl hg => by
      obtain ⟨a, b, rfl⟩ := two_of (evals_len hl) (of_decide_eq_true hmo).symm
      exact ⟨truthV (sameV a b), allV 1 [a, b] || allV 3 [a, b], fun lf w2 L1 => equal_call (wl := w2) (fBs D ks) (by omega) (Wk.mk fd ds 8 nm ng df dg kf ks lf [a, b]) a b rfl (hg.1 a (by simp)).2 (L1 :: H) (by simp), rfl⟩) hih
  · injection hm with hm
    subst hm
    exact Eval9_call _ hM fd ds fb bs nm ng df dg kf ks hds o4 hgood H hH (fun hmo l hl hg => by
      obtain ⟨a, b, rfl⟩ := two_of (evals_len hl) (of_decide_eq_true hmo).symm
      exact ⟨truthV (decide (a.val ≤ b.val)), allV 1 [a, b], fun lf w2 L1 => most_call (wl := w2) (fBs D ks) (by omega) (Wk.mk fd ds 9 nm ng df dg kf ks lf [a, b]) a b rfl (hg.1 a (by simp)).2 (hg.1 b (by simp)).2 (L1 :: H) (by simp), rfl⟩) hih
  · injection hm with hm
    subst hm
    exact Eval10_call _ hM fd ds fb bs nm ng df dg kf ks hds o4 hgood H hH (fun hmo l hl hg => by
      obtain ⟨a, rfl⟩ := one_of (evals_len hl) (of_decide_eq_true hmo).symm
      exact ⟨truthV (!a.tr), allV 2 [a], fun lf w2 L1 => denied_call (wl := w2) (Wk.mk fd ds 10 nm ng df dg kf ks lf [a]) a rfl (L1 :: H) (by simp), rfl⟩) hih
  · injection hm with hm
    subst hm
    exact Eval11_call _ hM fd ds fb bs nm ng df dg kf ks hds o4 hgood H hH (fun _ l hl hg => ⟨truthV (l.all fun v => v.tr == true), allV 2 l, fun lf w2 L1 => and_call (wl := w2) (Wk.mk fd ds 11 nm ng df dg kf ks lf l) (by show l.length < _; rw [evals_len hl]; omega) (L1 :: H) (by simp), by
      have : (l.all fun v => v.tr == true) = l.all fun v => v.tr := by congr 1; funext v; simp
      rw [this]; rfl⟩) hih
  · injection hm with hm
    subst hm
    exact Eval12_call _ hM fd ds fb bs nm ng df dg kf ks hds o4 hgood H hH (fun _ l hl hg => ⟨truthV (!(l.all fun v => v.tr == false)), allV 2 l, fun lf w2 L1 => or_call (wl := w2) (Wk.mk fd ds 12 nm ng df dg kf ks lf l) (by show l.length < _; rw [evals_len hl]; omega) (L1 :: H) (by simp), by
      have : (!(l.all fun v => v.tr == false)) = l.any fun v => v.tr := by rw [List.any_eq_not_all_not]; congr 2; funext v; cases v.tr <;> rfl
      rw [this]; rfl⟩) hih
  · injection hm with hm
    subst hm
    exact Eval13_call _ hM fd ds fb bs nm ng df dg kf ks hds o4 hgood H hH (fun hmo l hl hg => by
      obtain ⟨a, b, rfl⟩ := two_of (evals_len hl) (of_decide_eq_true hmo).symm
      exact ⟨truthV (a.tr == b.tr), allV 2 [a, b], fun lf w2 L1 => iff_call (wl := w2) (Wk.mk fd ds 13 nm ng df dg kf ks lf [a, b]) a b rfl (L1 :: H) (by simp), rfl⟩) hih
end Go.GL.Seat

/-! Walks, mK: what arguments of api's types are. -/
namespace Go.GL.Seat
open Go.Proofs
set_option maxRecDepth 100000
set_option maxHeartbeats 4000000

theorem has_agg {T : Tab} {t : Nat} {ti : TI} {fs : List (Nat × Nat)} {p : PV} (h : HasT T t p) (ht : T t = some ti) (hd : ti.td = .struct fs) :
    ∃ parts : List PV, parts.length = fs.length ∧ (∀ (j : Nat) (f : Nat × Nat) (q : PV), fs[j]? = some f → parts[j]? = some q → HasT T f.2 q) ∧ p = .agg (parts.flatMap cellsOf) := by
  cases h with
  | agg _ ti' fs' parts ht' hd' hl hh =>
    rw [ht] at ht'
    injection ht' with ht'
    subst ht'
    rw [hd] at hd'
    injection hd' with hd'
    subst hd'
    exact ⟨parts, hl, hh, rfl⟩
  | bool _ ti' _ ht' hd' | str _ ti' _ ht' hd' | lst _ ti' _ _ _ ht' hd' _ | int _ ti' _ _ ht' hd' _ =>
    rw [ht] at ht'
    injection ht' with ht'
    subst ht'
    rw [hd] at hd'
    cases hd'

theorem list2 {α : Type} {l : List α} (h : l.length = 2) : ∃ a b, l = [a, b] := by
  match l, h with
  | [a, b], _ => exact ⟨a, b, rfl⟩
theorem list4 {α : Type} {l : List α} (h : l.length = 4) : ∃ a b c d, l = [a, b, c, d] := by
  match l, h with
  | [a, b, c, d], _ => exact ⟨a, b, c, d, rfl⟩
theorem list5 {α : Type} {l : List α} (h : l.length = 5) : ∃ a b c d e, l = [a, b, c, d, e] := by
  match l, h with
  | [a, b, c, d, e], _ => exact ⟨a, b, c, d, e, rfl⟩

theorem all_map {α : Type} {enc : α → PV} {Q : α → Prop} : ∀ {xs : List PV}, (∀ x ∈ xs, ∃ a, x = enc a ∧ Q a) → ∃ l : List α, xs = l.map enc ∧ ∀ a ∈ l, Q a
  | [], _ => ⟨[], rfl, by simp⟩
  | x :: xs, h => by
    obtain ⟨a, rfl, ha⟩ := h x (by simp)
    obtain ⟨l, rfl, hl⟩ := all_map (enc := enc) (Q := Q) (xs := xs) (fun y hy => h y (List.mem_cons_of_mem _ hy))
    exact ⟨a :: l, rfl, by simpa [ha] using hl⟩

theorem has_u8 {t : Nat} {p : PV} {ti : TI} (h : HasT tab t p) (ht : tab t = some ti) (hd : ti.td = .int .u8) : ∃ n : Nat, p = .int .u8 n := by
  obtain ⟨n, rfl, hw⟩ := has_int h ht hd
  have : 0 ≤ n := by
    simp [Lit.wf, IntKind.min, IntKind.max, IntKind.signed, IntKind.bits] at hw
    omega
  exact ⟨n.toNat, by congr 1; omega⟩
theorem has_num {p : PV} (h : HasT tab 29 p) : ∃ ng f ds, p = .agg [.bool ng, .lst f (dig ds)] ∧ ∀ d ∈ ds, d ≤ 4294967295 := by
  obtain ⟨parts, hl, hp, rfl⟩ := has_agg h tab_29 rfl
  obtain ⟨a, b, rfl⟩ := list2 hl
  obtain ⟨ng, rfl⟩ := has_bool (hp 0 _ a rfl rfl) tab_4 rfl
  obtain ⟨f, xs, rfl, hx⟩ := has_lst (hp 1 _ b rfl rfl) tab_27 rfl
  obtain ⟨ds, rfl, hd⟩ := all_map (enc := fun (d : Nat) => PV.int .u32 d) (Q := fun d => d ≤ 4294967295) (fun x hxm => by
    obtain ⟨n, rfl, hw⟩ := has_int (hx x hxm) tab_113 rfl
    simp [Lit.wf, IntKind.min, IntKind.max, IntKind.signed, IntKind.bits] at hw
    exact ⟨n.toNat, by congr 1; omega, by omega⟩)
  exact ⟨ng, f, ds, rfl, hd⟩

theorem has_vls {t : Nat} {p : PV} (h : HasT tab t p) : (t = 48 → ∃ v : Vl, p = v.enc ∧ dgV v) ∧ (t = 46 → ∃ (f : Bool) (l : List Vl), p = .lst f (encVs l) ∧ dgVs l) := by
  induction h with
  | bool t ti b ht hd | int t ti k n ht hd hw | str t ti s ht hd =>
    constructor <;> rintro rfl
    · rw [tab_48] at ht; injection ht with ht; subst ht; cases hd
    · rw [tab_46] at ht; injection ht with ht; subst ht; cases hd
  | lst t ti e full xs ht hd h ih =>
    constructor <;> rintro rfl
    · rw [tab_48] at ht; injection ht with ht; subst ht; cases hd
    · rw [tab_46] at ht; injection ht with ht; subst ht
      injection hd with hd
      subst hd
      obtain ⟨l, rfl, hl⟩ := all_map (enc := Vl.enc) (Q := dgV) (fun x hx => (ih x hx).1 rfl)
      exact ⟨full, l, by rw [encVs_map], dgVs_of hl⟩
  | agg t ti fs parts ht hd hl h ih =>
    constructor <;> rintro rfl
    · rw [tab_48] at ht; injection ht with ht; subst ht
      injection hd with hd
      subst hd
      obtain ⟨a, b, c, d, e, rfl⟩ := list5 hl
      obtain ⟨k, rfl⟩ := has_u8 (h 0 _ a rfl rfl) tab_45 rfl
      obtain ⟨ng, f, ds, rfl, hds⟩ := has_num (h 1 _ b rfl rfl)
      obtain ⟨tr, rfl⟩ := has_bool (h 2 _ c rfl rfl) tab_4 rfl
      obtain ⟨s, rfl⟩ := has_str (h 3 _ d rfl rfl) tab_9 rfl
      obtain ⟨ff, l, rfl, hll⟩ := (ih 4 _ e rfl rfl).2 rfl
      exact ⟨.mk k ng f ds tr s ff l, rfl, hds, hll⟩
    · rw [tab_46] at ht; injection ht with ht; subst ht; cases hd

theorem has_tms {t : Nat} {p : PV} (h : HasT tab t p) : (t = 32 → ∃ v : Tm, p = v.enc ∧ dgT v) ∧ (t = 30 → ∃ (f : Bool) (l : List Tm), p = .lst f (encs l) ∧ dgTs l) := by
  induction h with
  | bool t ti b ht hd | int t ti k n ht hd hw | str t ti s ht hd =>
    constructor <;> rintro rfl
    · rw [tab_32] at ht; injection ht with ht; subst ht; cases hd
    · rw [tab_30] at ht; injection ht with ht; subst ht; cases hd
  | lst t ti e full xs ht hd h ih =>
    constructor <;> rintro rfl
    · rw [tab_32] at ht; injection ht with ht; subst ht; cases hd
    · rw [tab_30] at ht; injection ht with ht; subst ht
      injection hd with hd
      subst hd
      obtain ⟨l, rfl, hl⟩ := all_map (enc := Tm.enc) (Q := dgT) (fun x hx => (ih x hx).1 rfl)
      exact ⟨full, l, by rw [encs_map], dgTs_of hl⟩
  | agg t ti fs parts ht hd hl h ih =>
    constructor <;> rintro rfl
    · rw [tab_32] at ht; injection ht with ht; subst ht
      injection hd with hd
      subst hd
      obtain ⟨a, b, c, d, rfl⟩ := list4 hl
      obtain ⟨k, rfl⟩ := has_u8 (h 0 _ a rfl rfl) tab_26 rfl
      obtain ⟨s, rfl⟩ := has_str (h 1 _ b rfl rfl) tab_9 rfl
      obtain ⟨ng, f, ds, rfl, hds⟩ := has_num (h 2 _ c rfl rfl)
      obtain ⟨ff, l, rfl, hll⟩ := (ih 3 _ d rfl rfl).2 rfl
      exact ⟨.mk k s ng f ds ff l, rfl, hds, hll⟩
    · rw [tab_30] at ht; injection ht with ht; subst ht; cases hd

theorem has_tm {p : PV} (h : HasT tab 32 p) : ∃ v : Tm, p = v.enc ∧ dgT v := (has_tms h).1 rfl
theorem has_vl {p : PV} (h : HasT tab 48 p) : ∃ v : Vl, p = v.enc ∧ dgV v := (has_vls h).1 rfl

theorem has_datas {p : PV} (h : HasT tab 41 p) : ∃ (f : Bool) (l : List Dt), p = .lst f (encD l) := by
  obtain ⟨f, xs, rfl, hx⟩ := has_lst h tab_41 rfl
  obtain ⟨l, rfl, _⟩ := all_map (enc := Dt.enc) (Q := fun _ => True) (fun x hxm => by
    obtain ⟨parts, hl, hp, rfl⟩ := has_agg (hx x hxm) tab_129 rfl
    obtain ⟨a, b, rfl⟩ := list2 hl
    obtain ⟨s, rfl⟩ := has_str (hp 0 _ a rfl rfl) tab_9 rfl
    obtain ⟨cf, ys, rfl, hy⟩ := has_lst (hp 1 _ b rfl rfl) tab_127 rfl
    obtain ⟨cs, rfl, _⟩ := all_map (enc := Cn.enc) (Q := fun _ => True) (fun y hym => by
      obtain ⟨parts, hl, hp, rfl⟩ := has_agg (hy y hym) tab_126 rfl
      obtain ⟨a, b, rfl⟩ := list2 hl
      obtain ⟨s, rfl⟩ := has_str (hp 0 _ a rfl rfl) tab_9 rfl
      obtain ⟨ff, zs, rfl, hz⟩ := has_lst (hp 1 _ b rfl rfl) tab_120 rfl
      obtain ⟨fs, rfl, _⟩ := all_map (enc := PV.str) (Q := fun _ => True) (fun z hzm => by
        obtain ⟨s, rfl⟩ := has_str (hz z hzm) tab_9 rfl
        exact ⟨s, rfl, trivial⟩)
      exact ⟨⟨s, ff, fs⟩, rfl, trivial⟩)
    exact ⟨⟨s, cf, cs⟩, rfl, trivial⟩)
  exact ⟨f, l, rfl⟩
theorem has_bounds {p : PV} (h : HasT tab 42 p) : ∃ (f : Bool) (l : List Bd), p = .lst f (encB l) ∧ ∀ b ∈ l, dgV b.v := by
  obtain ⟨f, xs, rfl, hx⟩ := has_lst h tab_42 rfl
  obtain ⟨l, rfl, hl⟩ := all_map (enc := Bd.enc) (Q := fun b => dgV b.v) (fun x hxm => by
    obtain ⟨parts, hl, hp, rfl⟩ := has_agg (hx x hxm) tab_71 rfl
    obtain ⟨a, b, rfl⟩ := list2 hl
    obtain ⟨s, rfl⟩ := has_str (hp 0 _ a rfl rfl) tab_9 rfl
    obtain ⟨v, rfl, hv⟩ := has_vl (hp 1 _ b rfl rfl)
    exact ⟨⟨s, v⟩, by simp [Bd.enc], hv⟩)
  exact ⟨f, l, rfl, hl⟩
end Go.GL.Seat

/-! Walks, mL: parts counted (package whetstonekit). -/
namespace Go.GL.Seat
open Go.Proofs
set_option maxRecDepth 100000
set_option maxHeartbeats 8000000

theorem quo8 (n : Nat) : Int.tdiv (n : Int) 8 = ((n / 8 : Nat) : Int) := rfl

theorem ValueOf_call (n : Nat) : ∀ {wl : Nat} (v : Vl) (m : Int) (H : Heap), v.size ≤ n → szV v → -1 ≤ m → m ≤ 1000 → 0 < H.length → E.call 83 wl [v.enc, .int .i64 m] H = some (.ret (.int .i64 (valN m v)), H) := by
  induction n using Nat.strongRecOn with
  | _ n ih =>
  intro wl v m H hn hs hm1 hm2 hH
  refine (E_call Try.func83 rfl rfl (by kernel_rfl) rfl _ (by exact Nat.le_of_ble_eq_true rfl) H).trans ?_
  have hvl := valN_le m v hs hm1 hm2
  obtain ⟨k, ng, df, ds, tr, nm, ff, fs⟩ := v
  simp only [Vl.size] at hn
  obtain ⟨s1, s2, s3, s4⟩ := hs
  obtain ⟨r, hr⟩ : ∃ r, valN m (.mk k ng df ds tr nm ff fs) = r := ⟨_, rfl⟩
  rw [hr] at hvl ⊢
  simp only [valN] at hr
  have hB : BG = 140737488355328 := rfl
  have hC : CG = 200000000000000 := rfl
  obtain ⟨z8, h8⟩ : ∃ z : Nat, nm.size / 8 = z := ⟨_, rfl⟩
  have h8' : (nm.size : Int) / 8 = z8 := by omega
  rw [h8] at hr
  have w1 := i64w (n := 1 + (ds.length : Int)) (by omega) (by omega)
  have w2 := i64w (n := (z8 : Int)) (by omega) (by omega)
  have w3 := i64w (n := 1 + (ds.length : Int) + (z8 : Int)) (by omega) (by omega)
  simp only [Vl.enc]
  simp [Try.f83, w1, w2, w3, quo8, h8']
  generalize hz : run tab E wl (Code.loop _) _ = z
  obtain ⟨x, s', rfl, hx⟩ := loop_up (fun c s => E_loop) hz fs.length (fun i st => ∃ c : Int, st.env 1 = .int .i64 m ∧ st.env 2 = .ptr H.length 0 0 ∧ st.env 5 = .int .i64 c ∧ st.env 6 = .int .i64 i ∧ st.H = H ∧ st.L[0]? = some (.box [.int .u8 k, .bool ng, .lst df (dig ds), .bool tr, .str nm, .lst ff (encVs fs)]) ∧ 0 ≤ c ∧ c ≤ 300000000000000 ∧ cntV m c (fs.drop i) = r)
    (fun x st => x = .exit 0 ∧ st.env 5 = .int .i64 r ∧ st.H = H)
    ⟨1 + (ds.length : Int) + z8, by simp, by simp, by simp, by simp, by simp, by simp, by omega, by omega, by simpa using hr⟩ (by
      rintro i ⟨e, L, H'⟩ hi ⟨c, h1, h2, h5, h6, hHH, hL0, hc1, hc2, hc3⟩
      simp only [] at h1 h2 h5 h6 hHH hL0
      subst hHH
      obtain ⟨t, ht⟩ : ∃ t, fs[i]? = some t := ⟨_, List.getElem?_eq_getElem hi⟩
      have hdr : fs.drop i = t :: fs.drop (i + 1) := by
        have := List.drop_eq_getElem_cons (l := fs) hi
        rw [(List.getElem?_eq_some_iff.1 ht).2] at this
        exact this
      rw [hdr] at hc3
      simp only [cntV] at hc3
      have wi := i64w (n := (i : Int) + 1) (by omega) (by omega)
      by_cases hcm : c ≤ m
      · rw [if_pos hcm] at hc3
        have htm := List.mem_of_getElem? ht
        have hst := szVs_mem s4 htm
        have hle := valN_le (m - c) t hst (by omega) (by omega)
        have hcall := fun (w2 : Nat) (L1 : List Blk) => ih t.size (by have := sizeVs_mem htm; omega) (wl := w2) t (m - c) (L1 :: H') (Nat.le_refl _) hst (by omega) (by omega) (by simp)
        obtain ⟨q, hq⟩ : ∃ q, valN (m - c) t = q := ⟨_, rfl⟩
        rw [hq] at hcall hle hc3
        have wm := i64w (n := m - c) (by omega) (by omega)
        have wq := i64w (n := c + q) (by omega) (by omega)
        have te : t.enc = .agg [.int .u8 t.k, .bool t.ng, .lst t.df (dig t.ds), .bool t.tr, .str t.nm, .lst t.ff (encVs t.fs)] := by cases t; rfl
        rw [te] at hcall
        simp [-getElem?_pos, h1, h2, h5, h6, hL0, hi, hcm, ht, te, hcall, wi, wm, wq]
        omega
      · rw [if_neg hcm] at hc3
        subst hc3
        simp [-getElem?_pos, h1, h2, h5, h6, hL0, hi, hcm]) (by
      rintro ⟨e, L, H'⟩ ⟨c, h1, h2, h5, h6, hHH, hL0, hc1, hc2, hc3⟩
      simp only [] at h1 h2 h5 h6 hHH hL0
      rw [List.drop_length] at hc3
      simp only [cntV] at hc3
      simp [-getElem?_pos, h1, h2, h5, h6, hL0, hHH, hc3])
  obtain ⟨rfl, h5, hHH⟩ := hx
  simp [h5, hHH, hH]

theorem BoundsOf_call {wl : Nat} (f : Bool) (l : List Bd) (m : Int) (hs : ∀ b ∈ l, szB b) (hl : l.length ≤ BG) (hm1 : -1 ≤ m) (hm2 : m ≤ 1000) (H : Heap) (hH : 0 < H.length) :
    E.call 35 wl [.lst f (encB l), .int .i64 m] H = some (.ret (.int .i64 (cntB m 0 l)), H) := by
  refine (E_call Try.func35 rfl rfl (by kernel_rfl) rfl _ (by exact Nat.le_of_ble_eq_true rfl) H).trans ?_
  have hvl := cntB_le m 0 l hs hm2 (by omega)
  obtain ⟨r, hr⟩ : ∃ r, cntB m 0 l = r := ⟨_, rfl⟩
  rw [hr] at hvl ⊢
  have hB : BG = 140737488355328 := rfl
  have hC : CG = 200000000000000 := rfl
  simp [Try.f35]
  generalize hz : run tab E wl (Code.loop _) _ = z
  obtain ⟨x, s', rfl, hx⟩ := loop_up (fun c s => E_loop) hz l.length (fun i st => ∃ c : Int, st.env 0 = .lst f (encB l) ∧ st.env 1 = .int .i64 m ∧ st.env 5 = .int .i64 c ∧ st.env 6 = .int .i64 i ∧ st.H = H ∧ 0 ≤ c ∧ c ≤ 500000000000000 ∧ cntB m c (l.drop i) = r)
    (fun x st => x = .exit 0 ∧ st.env 5 = .int .i64 r ∧ st.H = H)
    ⟨0, by simp, by simp, by simp, by simp, by simp, by omega, by omega, by simpa using hr⟩ (by
      rintro i ⟨e, L, H'⟩ hi ⟨c, h0, h1, h5, h6, hHH, hc1, hc2, hc3⟩
      simp only [] at h0 h1 h5 h6 hHH
      subst hHH
      obtain ⟨t, ht⟩ : ∃ t, l[i]? = some t := ⟨_, List.getElem?_eq_getElem hi⟩
      have hdr : l.drop i = t :: l.drop (i + 1) := by
        have := List.drop_eq_getElem_cons (l := l) hi
        rw [(List.getElem?_eq_some_iff.1 ht).2] at this
        exact this
      rw [hdr] at hc3
      simp only [cntB] at hc3
      have wi := i64w (n := (i : Int) + 1) (by omega) (by omega)
      by_cases hcm : c ≤ m
      · rw [if_pos hcm] at hc3
        have htm := List.mem_of_getElem? ht
        obtain ⟨t1, t2⟩ := hs t htm
        have hle := valN_le (m - c) t.v t2 (by omega) (by omega)
        have hcall := fun (w2 : Nat) (L1 : List Blk) => ValueOf_call t.v.size (wl := w2) t.v (m - c) (L1 :: H') (Nat.le_refl _) t2 (by omega) (by omega) (by simp)
        obtain ⟨q, hq⟩ : ∃ q, valN (m - c) t.v = q := ⟨_, rfl⟩
        rw [hq] at hcall hle hc3
        obtain ⟨z8, h8⟩ : ∃ z : Nat, t.nm.size / 8 = z := ⟨_, rfl⟩
        have h8' : (t.nm.size : Int) / 8 = z8 := by omega
        rw [h8] at hc3
        have wm := i64w (n := m - c) (by omega) (by omega)
        have w1 := i64w (n := c + 1) (by omega) (by omega)
        have w2 := i64w (n := (z8 : Int)) (by omega) (by omega)
        have w3 := i64w (n := c + 1 + (z8 : Int)) (by omega) (by omega)
        have wq := i64w (n := c + 1 + (z8 : Int) + q) (by omega) (by omega)
        obtain ⟨tn, tv⟩ := t
        simp only [] at hcall h8'
        have te : tv.enc = .agg [.int .u8 tv.k, .bool tv.ng, .lst tv.df (dig tv.ds), .bool tv.tr, .str tv.nm, .lst tv.ff (encVs tv.fs)] := by cases tv; rfl
        rw [te] at hcall
        simp [-getElem?_pos, h0, h1, h5, h6, hi, hcm, ht, Bd.enc, te, hcall, wi, wm, wq, w1, w2, w3, quo8, h8']
        omega
      · rw [if_neg hcm] at hc3
        subst hc3
        simp [-getElem?_pos, h0, h1, h5, h6, hi, hcm]) (by
      rintro ⟨e, L, H'⟩ ⟨c, h0, h1, h5, h6, hHH, hc1, hc2, hc3⟩
      simp only [] at h0 h1 h5 h6 hHH
      rw [List.drop_length] at hc3
      simp only [cntB] at hc3
      simp [-getElem?_pos, h0, h1, h5, h6, hHH, hc3])
  obtain ⟨rfl, h5, hHH⟩ := hx
  simp [h5, hHH, hH]

theorem TermsOf_call (n : Nat) : ∀ {wl : Nat} (f : Bool) (l : List Tm) (m : Int) (H : Heap), sizes l ≤ n → szTs l → l.length ≤ BG → -2 ≤ m → m ≤ 1000 → 0 < H.length → E.call 36 wl [.lst f (encs l), .int .i64 m] H = some (.ret (.int .i64 (cntT m 0 l)), H) := by
  induction n using Nat.strongRecOn with
  | _ n ih =>
  intro wl f l m H hn hs hl hm1 hm2 hH
  refine (E_call Try.func36 rfl rfl (by kernel_rfl) rfl _ (by exact Nat.le_of_ble_eq_true rfl) H).trans ?_
  have hB : BG = 140737488355328 := rfl
  obtain ⟨r, hr⟩ : ∃ r, cntT m 0 l = r := ⟨_, rfl⟩
  rw [hr]
  simp [Try.f36]
  generalize hz : run tab E wl (Code.loop _) _ = z
  obtain ⟨x, s', rfl, hx⟩ := loop_up (fun c s => E_loop) hz l.length (fun i st => ∃ c : Int, st.env 0 = .lst f (encs l) ∧ st.env 1 = .int .i64 m ∧ st.env 5 = .int .i64 c ∧ st.env 6 = .int .i64 i ∧ st.H = H ∧ 0 ≤ c ∧ c ≤ 900000000000000000 ∧ cntT m c (l.drop i) = r)
    (fun x st => x = .exit 0 ∧ st.env 5 = .int .i64 r ∧ st.H = H)
    ⟨0, by simp, by simp, by simp, by simp, by simp, by omega, by omega, by simpa using hr⟩ (by
      rintro i ⟨e, L, H'⟩ hi ⟨c, h0, h1, h5, h6, hHH, hc1, hc2, hc3⟩
      simp only [] at h0 h1 h5 h6 hHH
      subst hHH
      obtain ⟨t, ht⟩ : ∃ t, l[i]? = some t := ⟨_, List.getElem?_eq_getElem hi⟩
      have hdr : l.drop i = t :: l.drop (i + 1) := by
        have := List.drop_eq_getElem_cons (l := l) hi
        rw [(List.getElem?_eq_some_iff.1 ht).2] at this
        exact this
      rw [hdr] at hc3
      simp only [cntT] at hc3
      have wi := i64w (n := (i : Int) + 1) (by omega) (by omega)
      by_cases hcm : c ≤ m
      · rw [if_pos hcm] at hc3
        have htm := List.mem_of_getElem? ht
        have hst := szTs_mem hs htm
        have hle := tmN_le (m - c) t hst (by omega) (by omega)
        have hcall : ∀ (w2 : Nat) (L1 : List Blk), E.call 84 w2 [t.enc, .int .i64 (m - c)] (L1 :: H') = some (.ret (.int .i64 (tmN (m - c) t)), L1 :: H') := by
          intro w2 L1
          refine (E_call Try.func84 rfl rfl (by kernel_rfl) rfl _ (by exact Nat.le_of_ble_eq_true rfl) (L1 :: H')).trans ?_
          have hts := szs_mem htm
          obtain ⟨tk, tn, tg, tf, td, tkf, tks⟩ := t
          obtain ⟨s1, s2, s3, s4⟩ := hst
          simp only [Tm.size] at hts
          simp only [tmN] at hle ⊢
          have hks := fun (w3 : Nat) (L2 : List Blk) => ih (sizes tks) (by omega) (wl := w3) tkf tks (m - c - 1) (L2 :: L1 :: H') (Nat.le_refl _) s4 s3 (by omega) (by omega) (by simp)
          obtain ⟨y, hy⟩ : ∃ y, cntT (m - c - 1) 0 tks = y := ⟨_, rfl⟩
          rw [hy] at hks hle ⊢
          have hy0 : 0 ≤ y := by
            rcases Int.lt_or_le (m - c - 1) (-1) with h | h
            · omega
            · have := cntT_le (m - c - 1) 0 tks s4 h (by omega) (by omega)
              omega
          obtain ⟨z8, h8⟩ : ∃ z : Nat, tn.size / 8 = z := ⟨_, rfl⟩
          have h8' : (tn.size : Int) / 8 = z8 := by omega
          rw [h8] at hle ⊢
          have w1 := i64w (n := (z8 : Int)) (by omega) (by omega)
          have w2 := i64w (n := 1 + (z8 : Int)) (by omega) (by omega)
          have w3 := i64w (n := 1 + (z8 : Int) + td.length) (by omega) (by omega)
          have w4 := i64w (n := m - c - 1) (by omega) (by omega)
          have w5 := i64w (n := 1 + (z8 : Int) + td.length + y) (by omega) (by omega)
          obtain ⟨mc, hmc⟩ : ∃ mc, m - c = mc := ⟨_, rfl⟩
          rw [hmc] at hks w4 ⊢
          simp only [Tm.enc]
          simp [Try.f84, w1, w2, w3, w4, w5, hks, quo8, h8']
        obtain ⟨q, hq⟩ : ∃ q, tmN (m - c) t = q := ⟨_, rfl⟩
        rw [hq] at hcall hle hc3
        have wm := i64w (n := m - c) (by omega) (by omega)
        have wq := i64w (n := c + q) (by omega) (by omega)
        obtain ⟨tf, td, te⟩ : ∃ tf td, t.enc = .agg [.int .u8 t.k, .str t.nm, .bool t.ng, .lst tf (dig td), .lst t.kf (encs t.ks)] := by cases t; exact ⟨_, _, rfl⟩
        rw [te] at hcall
        simp [-getElem?_pos, h0, h1, h5, h6, hi, hcm, ht, te, hcall, wi, wm, wq]
        omega
      · rw [if_neg hcm] at hc3
        subst hc3
        simp [-getElem?_pos, h0, h1, h5, h6, hi, hcm]) (by
      rintro ⟨e, L, H'⟩ ⟨c, h0, h1, h5, h6, hHH, hc1, hc2, hc3⟩
      simp only [] at h0 h1 h5 h6 hHH
      rw [List.drop_length] at hc3
      simp only [cntT] at hc3
      simp [-getElem?_pos, h0, h1, h5, h6, hHH, hc3])
  obtain ⟨rfl, h5, hHH⟩ := hx
  simp [h5, hHH, hH]

theorem DatasOf_call {wl : Nat} (f : Bool) (l : List Dt) (m : Int) (hs : ∀ b ∈ l, szD b) (hl : l.length ≤ BG) (hm1 : -1 ≤ m) (hm2 : m ≤ 1000) (H : Heap) (hH : 0 < H.length) :
    E.call 34 wl [.lst f (encD l), .int .i64 m] H = some (.ret (.int .i64 (cntD m 0 l)), H) := by
  refine (E_call Try.func34 rfl rfl (by kernel_rfl) rfl _ (by exact Nat.le_of_ble_eq_true rfl) H).trans ?_
  have hvl := cntD_le m 0 l hs hm2 (by omega)
  obtain ⟨r, hr⟩ : ∃ r, cntD m 0 l = r := ⟨_, rfl⟩
  rw [hr] at hvl ⊢
  have hB : BG = 140737488355328 := rfl
  have hC : CG = 200000000000000 := rfl
  simp [Try.f34]
  generalize hz : run tab E wl (Code.loop _) _ = z
  obtain ⟨x, s', rfl, hx⟩ := loop_up (fun c s => E_loop) hz l.length (fun i st => ∃ c : Int, st.env 0 = .lst f (encD l) ∧ st.env 1 = .int .i64 m ∧ st.env 5 = .int .i64 c ∧ st.env 6 = .int .i64 i ∧ st.H = H ∧ 0 ≤ c ∧ c ≤ 500000000000000 ∧ cntD m c (l.drop i) = r)
    (fun x st => x = .exit 0 ∧ st.env 5 = .int .i64 r ∧ st.H = H)
    ⟨0, by simp, by simp, by simp, by simp, by simp, by omega, by omega, by simpa using hr⟩ (by
      rintro i ⟨e, L, H'⟩ hi ⟨c, h0, h1, h5, h6, hHH, hc1, hc2, hc3⟩
      simp only [] at h0 h1 h5 h6 hHH
      subst hHH
      obtain ⟨t, ht⟩ : ∃ t, l[i]? = some t := ⟨_, List.getElem?_eq_getElem hi⟩
      have hdr : l.drop i = t :: l.drop (i + 1) := by
        have := List.drop_eq_getElem_cons (l := l) hi
        rw [(List.getElem?_eq_some_iff.1 ht).2] at this
        exact this
      rw [hdr] at hc3
      simp only [cntD] at hc3
      have wi := i64w (n := (i : Int) + 1) (by omega) (by omega)
      by_cases hcm : c ≤ m
      · rw [if_pos hcm] at hc3
        have htm := List.mem_of_getElem? ht
        obtain ⟨t1, t2, t3⟩ := hs t htm
        have hle := cntC_le m (c + 1 + (t.nm.size / 8 : Nat)) t.cs t3 hm2 (by omega)
        obtain ⟨z8, h8⟩ : ∃ z : Nat, t.nm.size / 8 = z := ⟨_, rfl⟩
        have h8' : (t.nm.size : Int) / 8 = z8 := by omega
        rw [h8] at hc3 hle
        obtain ⟨q, hq⟩ : ∃ q, cntC m (c + 1 + (z8 : Int)) t.cs = q := ⟨_, rfl⟩
        rw [hq] at hle hc3
        have w1 := i64w (n := c + 1) (by omega) (by omega)
        have w2 := i64w (n := (z8 : Int)) (by omega) (by omega)
        have w3 := i64w (n := c + 1 + (z8 : Int)) (by omega) (by omega)
        obtain ⟨tn, tcf, tcs⟩ := t
        simp only [] at h8' hq t2 t3
        simp [-getElem?_pos, h0, h1, h5, h6, hi, hcm, ht, Dt.enc, wi, w1, w2, w3, quo8, h8']
        generalize hz2 : run tab E wl (Code.loop _) _ = z2
        obtain ⟨x2, s2, rfl, hx2⟩ := loop_up (fun c s => E_loop) hz2 tcs.length (fun j st => ∃ d : Int, st.env 0 = .lst f (encD l) ∧ st.env 1 = .int .i64 m ∧ st.env 5 = .int .i64 d ∧ st.env 6 = .int .i64 i ∧ st.env 7 = .int .i64 j ∧ st.H = H' ∧ 0 ≤ d ∧ d ≤ 500000000000000 ∧ cntC m d (tcs.drop j) = q)
          (fun x st => x = .exit 2 ∧ st.env 0 = .lst f (encD l) ∧ st.env 1 = .int .i64 m ∧ st.env 5 = .int .i64 q ∧ st.env 6 = .int .i64 i ∧ st.H = H')
          ⟨c + 1 + (z8 : Int), by simp [h0], by simp [h1], by simp, by simp [h6], by simp, by simp, by omega, by omega, by simpa using hq⟩ (by
            rintro j ⟨e2, L2, H2⟩ hj ⟨d, g0, g1, g5, g6, g7, gHH, gd1, gd2, gd3⟩
            simp only [] at g0 g1 g5 g6 g7 gHH
            subst gHH
            obtain ⟨u, hu⟩ : ∃ u, tcs[j]? = some u := ⟨_, List.getElem?_eq_getElem hj⟩
            have hdr2 : tcs.drop j = u :: tcs.drop (j + 1) := by
              have := List.drop_eq_getElem_cons (l := tcs) hj
              rw [(List.getElem?_eq_some_iff.1 hu).2] at this
              exact this
            rw [hdr2] at gd3
            simp only [cntC] at gd3
            have wj := i64w (n := (j : Int) + 1) (by omega) (by omega)
            by_cases hdm : d ≤ m
            · rw [if_pos hdm] at gd3
              obtain ⟨u1, u2⟩ := t3 u (List.mem_of_getElem? hu)
              obtain ⟨y8, k8⟩ : ∃ z : Nat, u.nm.size / 8 = z := ⟨_, rfl⟩
              have k8' : (u.nm.size : Int) / 8 = y8 := by omega
              rw [k8] at gd3
              have v1 := i64w (n := d + 1) (by omega) (by omega)
              have v2 := i64w (n := (y8 : Int)) (by omega) (by omega)
              have v3 := i64w (n := d + 1 + (y8 : Int)) (by omega) (by omega)
              have v4 := i64w (n := d + 1 + (y8 : Int) + u.fs.length) (by omega) (by omega)
              obtain ⟨un, uff, ufs⟩ := u
              simp only [] at k8' u2 v4 gd3
              simp [-getElem?_pos, g0, g1, g5, g6, g7, hj, hi, hdm, ht, hu, Dt.enc, Cn.enc, wj, v1, v2, v3, v4, quo8, k8']
              exact ⟨by omega, by omega, gd3⟩
            · rw [if_neg hdm] at gd3
              subst gd3
              simp [-getElem?_pos, g0, g1, g5, g6, g7, hj, hi, hdm, ht, hu, Dt.enc, Cn.enc]) (by
            rintro ⟨e2, L2, H2⟩ ⟨d, g0, g1, g5, g6, g7, gHH, gd1, gd2, gd3⟩
            simp only [] at g0 g1 g5 g6 g7 gHH
            rw [List.drop_length] at gd3
            simp only [cntC] at gd3
            simp [-getElem?_pos, g0, g1, g5, g6, g7, hi, ht, Dt.enc, gHH, gd3])
        obtain ⟨rfl, g0, g1, g5, g6, gHH⟩ := hx2
        simp [g0, g1, g5, g6, gHH, wi]
        exact ⟨by omega, by omega, hc3⟩
      · rw [if_neg hcm] at hc3
        subst hc3
        simp [-getElem?_pos, h0, h1, h5, h6, hi, hcm]) (by
      rintro ⟨e, L, H'⟩ ⟨c, h0, h1, h5, h6, hHH, hc1, hc2, hc3⟩
      simp only [] at h0 h1 h5 h6 hHH
      rw [List.drop_length] at hc3
      simp only [cntD] at hc3
      simp [-getElem?_pos, h0, h1, h5, h6, hHH, hc3])
  obtain ⟨rfl, h5, hHH⟩ := hx
  simp [h5, hHH, hH]

/-- Are data, bounds, terms too many? -/
def greatP (ds : List Dt) (bs : List Bd) (ts : List Tm) : Bool := decide (600 < cntD 600 0 ds) || (decide (600 < cntB 600 0 bs) || decide (600 < cntT 600 0 ts))

theorem great_call {wl : Nat} (fd fb ft : Bool) (ds : List Dt) (bs : List Bd) (ts : List Tm) (h1 : ∀ b ∈ ds, szD b) (h2 : ds.length ≤ BG) (h3 : ∀ b ∈ bs, szB b) (h4 : bs.length ≤ BG) (h5 : szTs ts) (h6 : ts.length ≤ BG) (H : Heap) (hH : 0 < H.length) :
    E.call 13 wl [.lst fd (encD ds), .lst fb (encB bs), .lst ft (encs ts)] H = some (.ret (.bool (greatP ds bs ts)), H) := by
  refine (E_call Try.func13 rfl rfl (by kernel_rfl) rfl _ (by exact Nat.le_of_ble_eq_true rfl) H).trans ?_
  have c1 := fun (w2 : Nat) (L1 : List Blk) => DatasOf_call (wl := w2) fd ds 600 h1 h2 (by omega) (by omega) (L1 :: H) (by simp)
  have c2 := fun (w2 : Nat) (L1 : List Blk) => BoundsOf_call (wl := w2) fb bs 600 h3 h4 (by omega) (by omega) (L1 :: H) (by simp)
  have c3 := fun (w2 : Nat) (L1 : List Blk) => TermsOf_call (sizes ts) (wl := w2) ft ts 600 (L1 :: H) (Nat.le_refl _) h5 h6 (by omega) (by omega) (by simp)
  unfold greatP
  obtain ⟨a, ha⟩ : ∃ a, cntD 600 0 ds = a := ⟨_, rfl⟩
  obtain ⟨b, hb⟩ : ∃ b, cntB 600 0 bs = b := ⟨_, rfl⟩
  obtain ⟨c, hc⟩ : ∃ c, cntT 600 0 ts = c := ⟨_, rfl⟩
  rw [ha] at c1 ⊢
  rw [hb] at c2 ⊢
  rw [hc] at c3 ⊢
  by_cases k1 : 600 < a
  · simp [Try.f13, c1, c2, c3, k1, hH]
  · by_cases k2 : 600 < b
    · simp [Try.f13, c1, c2, c3, k1, k2, hH]
    · by_cases k3 : 600 < c
      · simp [Try.f13, c1, c2, c3, k1, k2, k3, hH]
      · simp [Try.f13, c1, c2, c3, k1, k2, k3, hH]
end Go.GL.Seat
