/-
  Walks, mF: what a name comes to (package model).
  Walks, mG: what terms come to (package model): kids.
-/
import Derived.Test.YtafgloejojikoaaMGl48
set_option linter.unusedSimpArgs false
set_option linter.unusedVariables false
/-! Walks, mF: what a name comes to (package model). -/
namespace Go.GL.Seat
open Go.Proofs
set_option maxRecDepth 100000
set_option maxHeartbeats 8000000

def resP : Except Nat Vl → PV
  | .ok v => .tup [v.enc, .int .i64 0]
  | .error e => .tup [(zeroVl 0).enc, .int .i64 e]

theorem lastB_take {ss : List Bd} {i : Nat} {x : Bd} (nm : ByteArray) (h : ss[i]? = some x) : lastB (ss.take (i + 1)) nm = if x.nm = nm then some x.v else lastB (ss.take i) nm := by
  unfold lastB
  rw [List.take_add_one, h]
  simp only [Option.toList_some, List.reverse_append, List.reverse_cons, List.reverse_nil, List.nil_append, List.singleton_append, List.find?_cons]
  by_cases hx : x.nm = nm <;> simp [hx]

theorem Vl.enc_cells (v : Vl) : v.enc = .agg (cellsOf v.enc) := by cases v; rfl

theorem six (l : List PV) (h : l.length = 6) : ∃ a0 a1 a2 a3 a4 a5, l = [a0, a1, a2, a3, a4, a5] := by
  match l, h with
  | [a0, a1, a2, a3, a4, a5], _ => exact ⟨a0, a1, a2, a3, a4, a5, rfl⟩

theorem EvalVar_call (M : Nat) (hM : M < 1000000000) {wl : Nat} (fd : Bool) (ds : List Dt) (fb : Bool) (bs : List Bd) (t : Tm) (hds : okD ds) (hbl : bs.length < 1000000000) (hbs : ∀ b ∈ bs, okV M b.v) (hk : t.k = 1) (hks : t.ks = []) (H : Heap) (hH : 0 < H.length) :
    E.call 16 wl [.lst fd (encD ds), .lst fb (encB bs), t.enc] H = some (.ret (resP (match lastB bs t.nm with
      | none => .error 21
      | some v => if someV ds v then .ok (copV v) else .error 23)), H) := by
  refine (E_call Try.func16 rfl rfl (by kernel_rfl) rfl _ (by exact Nat.le_of_ble_eq_true rfl) H).trans ?_
  obtain ⟨tk, nm, tg, tf, td, tkf, tks⟩ := t
  simp only [Tm.k, Tm.ks, Tm.nm] at hk hks ⊢
  subst hk hks
  obtain ⟨r, hr⟩ : ∃ r, resP (match lastB bs nm with
      | none => .error 21
      | some v => if someV ds v then .ok (copV v) else .error 23) = r := ⟨_, rfl⟩
  rw [hr]
  simp [Try.f16, Tm.enc, encs]
  rw [if_pos (by
    unfold lim
    refine ⟨by omega, ?_⟩
    simp [encB, Bd.enc]
    intro b _
    obtain ⟨bn, ⟨k, ng, df, ds, tr, nm, ff, fs⟩⟩ := b
    simp [Vl.enc])]
  simp only [rangeK_some]
  generalize hz : backR _ _ _ _ _ _ _ _ _ _ = z
  obtain ⟨x, s', rfl, hx⟩ := back_rule hz (fun i L H' => (lastB (bs.take i) nm = lastB bs nm) ∧ H' = H ∧ L[0]? = some (.box [.lst fd (encD ds)]) ∧ L[1]? = some (.box [.int .u8 1, .str nm, .bool tg, .lst tf (dig td), .lst tkf []]) ∧ ∃ b2 v, L[2]? = some (.box b2) ∧ b2.length = 6 ∧ L[3]? = some (.box [v]))
    (fun x st => st.H = H ∧ st.env 6 = .ptr H.length 2 0 ∧ st.env 7 = .ptr H.length 3 0 ∧ ((x = .normal ∧ lastB bs nm = none ∧ ∃ b2 v, st.L[2]? = some (.box b2) ∧ b2.length = 6 ∧ st.L[3]? = some (.box [v])) ∨ (x = .ret ∧ ∃ (u : Vl) (e : Int), r = .tup [u.enc, .int .i64 e] ∧ st.L[2]? = some (.box (cellsOf u.enc)) ∧ st.L[3]? = some (.box [.int .i64 e]))))
    ⟨by simp, by simp, by simp, by simp, by simp⟩ (by
      intro i L H' x y hx hy hI
      obtain ⟨hl, rfl, hL0, hL1, b2, v, hL2, hb2, hL3⟩ := hI
      rw [encB_get] at hx
      obtain ⟨⟨bn, bv⟩, hx', rfl⟩ := Option.map_eq_some_iff.1 hx
      rw [lastB_take nm hx'] at hl
      obtain ⟨a0, a1, a2, a3, a4, a5, rfl⟩ := six b2 hb2
      have hbv := hbs _ (List.mem_of_getElem? hx')
      simp only [] at hbv
      have hsm := fun L1 : List Blk => some_call (wl := wl) M hM fd ds bv hbv hds (L1 :: H') (by simp)
      have hcp := fun L1 : List Blk => copied_call M hM (wl := wl) bv.size bv (L1 :: H') (Nat.le_refl _) hbv (by simp)
      have e6 : bv.enc = .agg [.int .u8 bv.k, .bool bv.ng, .lst bv.df (dig bv.ds), .bool bv.tr, .str bv.nm, .lst bv.ff (encVs bv.fs)] := by cases bv; rfl
      obtain ⟨cv, hcv⟩ : ∃ cv, copV bv = cv := ⟨_, rfl⟩
      rw [hcv] at hcp
      have c6 : cv.enc = .agg [.int .u8 cv.k, .bool cv.ng, .lst cv.df (dig cv.ds), .bool cv.tr, .str cv.nm, .lst cv.ff (encVs cv.fs)] := by cases cv; rfl
      simp only [e6, c6] at hsm hcp
      simp [Bd.enc, e6] at hy
      subst hy
      have l2 := (List.getElem?_eq_some_iff.1 hL2).1
      have l3 := (List.getElem?_eq_some_iff.1 hL3).1
      have n2 := old_ne hL2
      have n3 := old_ne hL3
      have n23 : ∀ b, (L.set 2 b)[3]? = some (.box [v]) := fun b => by rw [List.getElem?_set_ne (by omega)]; exact hL3
      by_cases hn : bn = nm
      · subst hn
        simp at hl
        rw [← hl] at hr
        simp only [hcv] at hr
        cases hbs : someV ds bv with
        | true =>
          rw [hbs] at hsm hr
          simp only [if_true, resP] at hr
          simp [-getElem?_pos, app_old hL0, app_old hL1, app_old hL2, app_old hL3, hsm, hcp]
          refine ⟨cv, 0, hr.symm, ?_, ?_⟩
          · rw [List.getElem?_set_self (by simp; omega), c6]
          · rw [List.getElem?_set_self (by simp; omega)]
        | false =>
          rw [hbs] at hsm hr
          simp [-getElem?_pos, app_old hL0, app_old hL1, app_old hL2, app_old hL3, hsm]
          refine ⟨zeroVl 0, 23, hr.symm, ?_, ?_⟩
          · rw [List.getElem?_set_self (by simp; omega)]; rfl
          · rw [List.getElem?_set_self (by simp; omega)]
      · simp [hn] at hl
        simp [-getElem?_pos, app_old hL0, app_old hL1, app_old hL2, app_old hL3, hn, hl]) (by
      intro x hx
      obtain ⟨s, _, rfl⟩ := List.mem_map.1 hx
      obtain ⟨bn, ⟨k, ng, df, ds, tr, nm, ff, fs⟩⟩ := s
      exact ⟨_, by simp [Bd.enc, Vl.enc]; rfl⟩) (by
      rintro L H' ⟨hl, rfl, _, _, b2, v, hL2, hb2, hL3⟩
      have hl' : lastB bs nm = none := by rw [← hl]; rfl
      exact ⟨rfl, by simp, by simp, .inl ⟨rfl, hl', b2, v, hL2, hb2, hL3⟩⟩)
  obtain ⟨hHH, h6, h7, hx⟩ := hx
  rcases hx with ⟨rfl, hn, b2, v, hL2, hb2, hL3⟩ | ⟨rfl, u, e, rfl, hL2, hL3⟩
  · obtain ⟨a0, a1, a2, a3, a4, a5, rfl⟩ := six b2 hb2
    rw [hn] at hr
    simp only [resP, zero0_enc] at hr
    have l2 := (List.getElem?_eq_some_iff.1 hL2).1
    have l3 := (List.getElem?_eq_some_iff.1 hL3).1
    have q2 : ∀ b, (s'.L.set 2 b)[2]? = some b := fun b => List.getElem?_set_self l2
    have q3 : ∀ b c, ((s'.L.set 2 b).set 3 c)[3]? = some c := fun b c => List.getElem?_set_self (by simpa using l3)
    have q4 : ∀ b, (s'.L.set 2 b)[3]? = some (.box [v]) := fun b => by rw [List.getElem?_set_ne (by omega)]; exact hL3
    simp [-getElem?_pos, h6, h7, hHH, hL2, hL3, ← hr, hH, q2, q3, q4]
  · have e6 : u.enc = .agg [.int .u8 u.k, .bool u.ng, .lst u.df (dig u.ds), .bool u.tr, .str u.nm, .lst u.ff (encVs u.fs)] := by cases u; rfl
    simp only [e6, cellsOf] at hL2 ⊢
    simp [-getElem?_pos, h6, h7, hHH, hL2, hL3, hH]
end Go.GL.Seat

/-! Walks, mG: what terms come to (package model): kids. -/
namespace Go.GL.Seat
open Go.Proofs
set_option maxRecDepth 100000
set_option maxHeartbeats 16000000

theorem evals_app (ds : List Dt) (bs : List Bd) : ∀ (a b : List Tm), evalsS ds bs (a ++ b) = match evalsS ds bs a with
    | .error e => .error e
    | .ok l => match evalsS ds bs b with
      | .error e => .error e
      | .ok l2 => .ok (l ++ l2)
  | [], b => by
    simp only [List.nil_append, evalsS]
    cases evalsS ds bs b <;> rfl
  | t :: a, b => by
    simp only [List.cons_append, evalsS, evals_app ds bs a b]
    cases evalS ds bs t with
    | error e => rfl
    | ok v =>
      simp only []
      cases evalsS ds bs a with
      | error e => rfl
      | ok l =>
        simp only []
        cases evalsS ds bs b <;> rfl
theorem evals_one (ds : List Dt) (bs : List Bd) (t : Tm) : evalsS ds bs [t] = match evalS ds bs t with
    | .error e => .error e
    | .ok v => .ok [v] := by
  simp only [evalsS]
  cases evalS ds bs t <;> rfl
theorem evals_take {ds : List Dt} {bs : List Bd} {ks : List Tm} {i : Nat} {t : Tm} {l : List Vl} {v : Vl} (ht : ks[i]? = some t) (hl : evalsS ds bs (ks.take i) = .ok l) (hv : evalS ds bs t = .ok v) : evalsS ds bs (ks.take (i + 1)) = .ok (l ++ [v]) := by
  rw [List.take_add_one, ht]
  simp only [Option.toList_some, evals_app, hl, evals_one, hv]
theorem evals_err {ds : List Dt} {bs : List Bd} {ks : List Tm} {i : Nat} {t : Tm} {l : List Vl} {e : Nat} (ht : ks[i]? = some t) (hl : evalsS ds bs (ks.take i) = .ok l) (hv : evalS ds bs t = .error e) : evalsS ds bs ks = .error e := by
  have h1 : ks = ks.take i ++ (t :: ks.drop (i + 1)) := by
    have := List.drop_eq_getElem_cons (List.getElem?_eq_some_iff.1 ht).1
    rw [(List.getElem?_eq_some_iff.1 ht).2] at this
    rw [← this, List.take_append_drop]
  rw [h1, evals_app, hl]
  simp only [evalsS, hv]
mutual
theorem eval_err {ds : List Dt} {bs : List Bd} : ∀ (t : Tm) {e : Nat}, evalS ds bs t = .error e → e = 21 ∨ e = 23 ∨ e = 24
  | .mk k nm ng df dg kf ks, e, h => by
    rw [evalS] at h
    have fin : ∀ n : Nat, (n = 21 ∨ n = 23 ∨ n = 24) → (Except.error n : Except Nat Vl) = .error e → e = 21 ∨ e = 23 ∨ e = 24 := fun n hn h => by injection h with h; subst h; exact hn
    split at h
    · split at h
      · exact fin _ (by decide) h
      · split at h
        · cases h
        · exact fin _ (by decide) h
    · split at h
      · exact fin _ (by decide) h
      · split at h
        · exact fin _ (by decide) h
        · split at h
          · rename_i e' he
            exact fin _ (evals_errs ks he) h
          · split at h
            · cases h
            · exact fin _ (by decide) h
theorem evals_errs {ds : List Dt} {bs : List Bd} : ∀ (l : List Tm) {e : Nat}, evalsS ds bs l = .error e → e = 21 ∨ e = 23 ∨ e = 24
  | [], e, h => by rw [evalsS] at h; cases h
  | t :: ts, e, h => by
    rw [evalsS] at h
    split at h
    · rename_i e' he
      injection h with h
      subst h
      exact eval_err t he
    · split at h
      · rename_i e' he
        injection h with h
        subst h
        exact evals_errs ts he
      · cases h
end

/-- The row of kids' values, as the frame holds it. -/
def RowK (d : Nat) (L : List Blk) (v : PV) (l : List Vl) : Prop := (l = [] ∧ v = .lst true []) ∨ (l ≠ [] ∧ ∃ kk, 5 ≤ kk ∧ v = .own d kk l.length 6 ∧ L[kk]? = some (.arr true 6 (encVs l)))

def kRes (ds : List Dt) (bs : List Bd) (m : Option Nat) (k : Nat) (nm : ByteArray) (ng : Bool) (dg : List Nat) (ks : List Tm) : Except Nat Vl :=
  if manyOk m ks.length = false then .error 24 else match evalsS ds bs ks with
    | .error e => .error e
    | .ok l => match kindEval ds k nm ng dg l with
      | some v => .ok v
      | none => .error 23

end Go.GL.Seat
