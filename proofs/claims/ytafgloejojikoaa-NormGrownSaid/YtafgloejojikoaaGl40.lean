/-
  Walks, G: pushing denials in (package norm): small parts.
  Walks, H: rows of digits (package nat).
  Walks, I: sums, sizes, rows of one's own (packages term, norm).
  Walks, J: what sorts tell of kids; the sizes that pushing comes to (package norm).
  Walks, K: pushing denials in (package norm).
  Walks, L: pushing denials in, the whole (package norm).
  Walks, M: pushing denials in: push and Push (package norm).
-/
import Derived.Test.YtafgloejojikoaaGl39
import Derived.Test.YtafgloejojikoaaGdC
set_option linter.unusedSimpArgs false
set_option linter.unusedVariables false
/-! Walks, G: pushing denials in (package norm): small parts. -/
namespace Go.GL.Seat
open Go.Proofs
set_option maxRecDepth 100000
set_option maxHeartbeats 8000000

/-- An own row, handed out. -/
def rowF {α : Type} (l : List α) : Bool := decide (l = [])

theorem clone_call {wl : Nat} (f : Bool) (l : List Nat) (H : Heap) (hH : 0 < H.length) (hb : l.length < 1000000000000) :
    E.call 65 wl [.lst f (dig l)] H = some (.ret (.lst (rowF l) (dig l)), H) := by
  refine (E_spec (g := nilG tab nil65 8) rfl).trans ?_
  cases l with
  | nil => simp [nilG, nilK, nilF, nil65, codeL, codeR, bodyOf, Try.f65, dig, hH, rowF]
  | cons a l =>
    have h4 : (l.length + 1) * 4 ≤ lim := by simp only [List.length_cons] at hb; unfold lim; omega
    simp [nilG, nilK, nilF, nil65, codeL, codeR, bodyOf, Try.f65, dig, hH, rowF, h4]

def ofT (k : Nat) (f : Bool) (ks : List Tm) : Tm := .mk k bNil false true [] f ks

theorem of_call {wl : Nat} (k : Nat) (f : Bool) (ks : List Tm) (H : Heap) (hH : 0 < H.length) :
    E.call 66 wl [.int .u8 k, .lst f (encs ks)] H = some (.ret (ofT k f ks).enc, H) := by
  refine (E_call Try.func66 rfl rfl (by kernel_rfl) rfl _ (by exact Nat.le_of_ble_eq_true rfl) H).trans ?_
  simp [Try.f66, hH, ofT, Tm.enc, dig]
theorem and_call {wl : Nat} (f : Bool) (ks : List Tm) (H : Heap) (hH : 0 < H.length) :
    E.call 68 wl [.lst f (encs ks)] H = some (.ret (ofT 11 f ks).enc, H) := by
  refine (E_call Try.func68 rfl rfl (by kernel_rfl) rfl _ (by exact Nat.le_of_ble_eq_true rfl) H).trans ?_
  have hc := fun L1 : List Blk => of_call (wl := wl) 11 f ks (L1 :: H) (by simp)
  simp [ofT, Tm.enc, dig] at hc
  simp [Try.f68, hH, ofT, Tm.enc, dig, hc]
theorem or_call {wl : Nat} (f : Bool) (ks : List Tm) (H : Heap) (hH : 0 < H.length) :
    E.call 69 wl [.lst f (encs ks)] H = some (.ret (ofT 12 f ks).enc, H) := by
  refine (E_call Try.func69 rfl rfl (by kernel_rfl) rfl _ (by exact Nat.le_of_ble_eq_true rfl) H).trans ?_
  have hc := fun L1 : List Blk => of_call (wl := wl) 12 f ks (L1 :: H) (by simp)
  simp [ofT, Tm.enc, dig] at hc
  simp [Try.f69, hH, ofT, Tm.enc, dig, hc]

@[simp] theorem k_mk (k : Nat) (nm : ByteArray) (ng df : Bool) (ds : List Nat) (kf : Bool) (ks : List Tm) : Tm.k (.mk k nm ng df ds kf ks) = k := rfl
@[simp] theorem nm_mk (k : Nat) (nm : ByteArray) (ng df : Bool) (ds : List Nat) (kf : Bool) (ks : List Tm) : Tm.nm (.mk k nm ng df ds kf ks) = nm := rfl
@[simp] theorem ng_mk (k : Nat) (nm : ByteArray) (ng df : Bool) (ds : List Nat) (kf : Bool) (ks : List Tm) : Tm.ng (.mk k nm ng df ds kf ks) = ng := rfl
@[simp] theorem df_mk (k : Nat) (nm : ByteArray) (ng df : Bool) (ds : List Nat) (kf : Bool) (ks : List Tm) : Tm.df (.mk k nm ng df ds kf ks) = df := rfl
@[simp] theorem ds_mk (k : Nat) (nm : ByteArray) (ng df : Bool) (ds : List Nat) (kf : Bool) (ks : List Tm) : Tm.ds (.mk k nm ng df ds kf ks) = ds := rfl
@[simp] theorem kf_mk (k : Nat) (nm : ByteArray) (ng df : Bool) (ds : List Nat) (kf : Bool) (ks : List Tm) : Tm.kf (.mk k nm ng df ds kf ks) = kf := rfl
@[simp] theorem ks_mk (k : Nat) (nm : ByteArray) (ng df : Bool) (ds : List Nat) (kf : Bool) (ks : List Tm) : Tm.ks (.mk k nm ng df ds kf ks) = ks := rfl

def frm (df : Bool) (dl : List PV) (sf : Bool) (sl : List PV) (t : Tm) : PV := .agg [.lst df dl, .lst sf sl, .int .u8 t.k, .str t.nm, .bool t.ng, .lst t.df (dig t.ds), .lst t.kf (encs t.ks)]

theorem fkid_call {wl : Nat} (df : Bool) (dl : List PV) (sf : Bool) (sl : List PV) {t : Tm} {i : Nat} {k : Tm} (hk : t.ks[i]? = some k) (H : Heap) (hH : 0 < H.length) : E.call 62 wl [frm df dl sf sl t, .int .i64 i] H = some (.ret (frm df dl sf sl k), H) := by
  refine (E_call Try.func62 rfl rfl (by kernel_rfl) rfl _ (by exact Nat.le_of_ble_eq_true rfl) H).trans ?_
  have h2 : i < t.ks.length := (List.getElem?_eq_some_iff.1 hk).1
  obtain ⟨tk, tn, tg, tf, td, tkf, tks⟩ := t
  obtain ⟨kk, kn, kg, kf, kd, kkf, kks⟩ := k
  simp only [Tm.ks] at hk h2
  simp [-getElem?_pos, Try.f62, frm, Tm.enc, hk, hH, Tm.k, Tm.nm, Tm.ng, Tm.df, Tm.ds, Tm.kf, Tm.ks]

/-- Is it of the sort of numbers? -/
def wholeS (ds : List Dt) (ss : List Sc) (t : Tm) : Bool := match sortS ds ss t with
  | .ok s => decide (s = bInt)
  | .error _ => false

theorem whole_call {wl : Nat} {t : Tm} (hb : t.bulk < 1000000000000) {fd : Bool} {ds : List Dt} {fs : Bool} {ss : List Sc} (hds : okD ds) (hss : ss.length < 1000000000000) (H : Heap) (hw : wl ≤ H.length) (hH : 0 < H.length) :
    E.call 64 wl [.agg [.lst fd (encD ds), .lst fs (encS ss)], t.enc] H = some (.ret (.bool (wholeS ds ss t)), H) := by
  refine (E_call Try.func64 rfl rfl (by kernel_rfl) rfl _ (by exact Nat.le_of_ble_eq_true rfl) H).trans ?_
  have hc := fun L1 : List Blk => Sort_call (wl := wl) hb (fd := fd) (fs := fs) hds hss (L1 :: H) (by simp; omega) (by simp)
  obtain ⟨r, hr⟩ : ∃ r, sortS ds ss t = r := ⟨_, rfl⟩
  simp only [wholeS]
  rw [hr] at hc ⊢
  obtain ⟨tk, tn, tg, tf, td, tkf, tks⟩ := t
  simp only [Tm.enc] at hc
  cases r with
  | ok s =>
    simp only [triedS] at hc
    simp [Try.f64, Tm.enc, hc, hH]
  | error e =>
    simp only [triedS] at hc
    by_cases he : e = 0 <;> simp [Try.f64, Tm.enc, hc, hH, he]
end Go.GL.Seat

/-! Walks, H: rows of digits (package nat). -/
namespace Go.GL.Seat
open Go.Proofs
set_option maxRecDepth 100000
set_option maxHeartbeats 8000000

theorem at_call {wl : Nat} (f : Bool) (l : List Nat) (k : Nat) (H : Heap) (hH : 0 < H.length) :
    E.call 152 wl [.lst f (dig64 l), .int .i64 k] H = some (.ret (.int .u64 (l[k]?.getD 0 : Nat)), H) := by
  refine (E_call Try.func152 rfl rfl (by kernel_rfl) rfl _ (by exact Nat.le_of_ble_eq_true rfl) H).trans ?_
  cases h : l[k]? with
  | none =>
    have h1 : ¬ k < l.length := by have := List.getElem?_eq_none_iff.1 h; omega
    simp [-getElem?_pos, Try.f152, h, h1, hH]
  | some d =>
    have h1 : k < l.length := (List.getElem?_eq_some_iff.1 h).1
    simp [-getElem?_pos, Try.f152, h, h1, hH]

theorem top_call {wl : Nat} (f : Bool) (l : List Nat) (hl : l ≠ []) (hb : l.length < 1000000000000) (H : Heap) (hH : 0 < H.length) :
    E.call 161 wl [.lst f (dig64 l)] H = some (.ret (.int .u64 (l.getLast hl : Nat)), H) := by
  refine (E_call Try.func161 rfl rfl (by kernel_rfl) rfl _ (by exact Nat.le_of_ble_eq_true rfl) H).trans ?_
  have hp := List.length_pos_iff.2 hl
  have hc := fun L1 : List Blk => at_call (wl := wl) f l (l.length - 1) (L1 :: H) (by simp)
  rw [List.getLast_eq_getElem]
  have hw := i64w (n := (l.length : Int) - 1) (by omega) (by omega)
  have he : ((l.length - 1 : Nat) : Int) = (l.length : Int) - 1 := by omega
  have h1 : l.length - 1 < l.length := by omega
  rw [he] at hc
  simp [h1] at hc
  simp [Try.f161, hw, hc, hH]

theorem wrap_u64 (n : Int) : IntKind.u64.wrap n = n % 18446744073709551616 := by simp [IntKind.wrap, IntKind.min, IntKind.max, IntKind.bits, IntKind.signed]
theorem u64w {n : Int} (h1 : 0 ≤ n) (h2 : n ≤ 18446744073709551615) : IntKind.u64.wrap n = n := IntWalk.u64_in n ⟨h1, h2⟩
theorem tmodN (a : Nat) : Int.tmod (a : Int) 1000000000 = ((a % B9 : Nat) : Int) := by
  rw [Int.tmod_eq_emod_of_nonneg (by omega)]; rfl
theorem tdivN (a : Nat) : Int.tdiv (a : Int) 1000000000 = ((a / B9 : Nat) : Int) := by
  rw [Int.tdiv_eq_ediv_of_nonneg (by omega)]; rfl

/-- A row of this frame's, or one that is closed. -/
def Row64 (d : Nat) (L : List Blk) (v : PV) (l : List Nat) : Prop := v = .lst false (dig64 l) ∨ ∃ kk live, v = .own d kk l.length 1 ∧ L[kk]? = some (.arr live 1 (dig64 l))

theorem carried_call {wl : Nat} (f : Bool) (l : List Nat) (hl : l.length < 100000000000) (hd : ∀ d ∈ l, d ≤ 4611686018427387904) (H : Heap) (hH : 0 < H.length) :
    E.call 153 wl [.lst f (dig64 l)] H = some (.ret (.agg [.lst false (dig64 (trimD (carryD 0 l)))]), H) := by
  have hcall := E_call (wl := wl) Try.func153 rfl rfl (by kernel_rfl) rfl [.lst f (dig64 l)] (by exact Nat.le_of_ble_eq_true rfl) H
  obtain ⟨o, ho⟩ : ∃ o, E.call 153 wl [.lst f (dig64 l)] H = o := ⟨_, rfl⟩
  rw [ho]
  rw [hcall] at ho
  clear hcall
  have hlen := carryD_length (M := 4611686018427387904) (by omega) (by omega) l 0 (by omega) hd
  obtain ⟨m, hm⟩ : ∃ m : Int, m = (l.length : Int) + 2 := ⟨_, rfl⟩
  have hw : IntKind.i64.wrap ((l.length : Int) + 2) = m := by rw [hm]; exact i64w (by omega) (by omega)
  have hcap : m * 8 ≤ (lim : Int) := by unfold lim; omega
  have hcap2 : (0 : Int) ≤ m := by omega
  simp [Try.f153, hw, hcap2, hcap] at ho
  generalize hz : run tab E wl (Code.loop _) _ = z at ho
  obtain ⟨x, s', rfl, hx⟩ := loop_up (fun c s => E_loop) hz (carryD 0 l).length (fun i st => ∃ l1 c kk b0, l1.length = i ∧ carryD 0 l = l1 ++ carryD c (l.drop i) ∧ c ≤ 4611686018427387904 ∧ st.env 0 = .lst f (dig64 l) ∧ st.env 2 = .ptr H.length 0 0 ∧ st.env 3 = .own H.length kk i 1 ∧ st.L[kk]? = some (.arr true 1 (dig64 l1)) ∧ st.env 4 = .int .u64 c ∧ st.env 5 = .int .i64 i ∧ st.H = H ∧ st.L[0]? = some (.box [b0]))
    (fun x st => x = .exit 0 ∧ ∃ kk b0, st.env 2 = .ptr H.length 0 0 ∧ st.env 3 = .own H.length kk (carryD 0 l).length 1 ∧ st.L[kk]? = some (.arr true 1 (dig64 (carryD 0 l))) ∧ st.H = H ∧ st.L[0]? = some (.box [b0]))
    ⟨[], 0, 1, _, rfl, by simp, by omega, by simp, by simp, by simp, by simp [dig64], by simp, by simp, by simp, by simp; rfl⟩ (by
      rintro i ⟨e, L, H'⟩ hi ⟨l1, c, kk, b0, hl1, hca, hc, h0, h2, h3, hkk, h4, h5, hHH, hL0⟩
      simp at h0 h2 h3 hkk h4 h5 hHH hL0
      subst hHH
      have hlt : i < l.length ∨ 0 < c := by
        rcases Nat.lt_or_ge i l.length with h | h
        · exact .inl h
        · refine .inr ?_
          rcases Nat.eq_zero_or_pos c with rfl | h'
          · rw [List.drop_eq_nil_of_le h] at hca
            rw [hca] at hi
            simp [carryD, hl1] at hi
          · exact h'
      rw [carryD_eq (c := c) (l := l.drop i) (by rw [List.length_drop]; omega), List.tail_drop, List.getElem?_drop, Nat.add_zero] at hca
      have hc2 := fun L1 : List Blk => at_call (wl := wl) f l i (L1 :: H') (by simp)
      have hx : l[i]?.getD 0 ≤ 4611686018427387904 := by
        cases h : l[i]? with
        | none => simp
        | some d => exact hd d (List.mem_of_getElem? h)
      obtain ⟨x, hxe⟩ : ∃ x, l[i]?.getD 0 = x := ⟨_, rfl⟩
      rw [hxe] at hca hc2 hx
      have hcl := carry_lt hc hx (by omega)
      obtain ⟨sm, hsm⟩ : ∃ sm, c + x = sm := ⟨_, rfl⟩
      obtain ⟨y, hy⟩ : ∃ y, sm % B9 = y := ⟨_, rfl⟩
      obtain ⟨q, hq⟩ : ∃ q, sm / B9 = q := ⟨_, rfl⟩
      rw [hsm, hy, hq] at hca
      rw [hsm, hq] at hcl
      have hwx : IntKind.u64.wrap ((c : Int) + x) = (sm : Int) := by rw [u64w (by omega) (by omega)]; omega
      have hrem : Int.tmod (sm : Int) 1000000000 = (y : Int) := by rw [tmodN, hy]
      have hquo : Int.tdiv (sm : Int) 1000000000 = (q : Int) := by rw [tdivN, hq]
      have hwd : IntKind.u64.wrap (q : Int) = (q : Int) := u64w (by omega) (by omega)
      have hlm : (i + 1) * 8 ≤ lim := by unfold lim; omega
      have hw2 := i64w (n := (i : Int) + 1) (by omega) (by omega)
      have hkl := old_ne hkk
      have hkL := (List.getElem?_eq_some_iff.1 hkk).1
      have hk0 : kk ≠ 0 := by
        rintro rfl
        rw [hkk] at hL0
        cases hL0
      have fini : ∃ l1_1 : List Nat, l1_1.length = i + 1 ∧ ∃ x, carryD 0 l = l1_1 ++ carryD x (List.drop (i + 1) l) ∧ x ≤ 4611686018427387904 ∧
          ((L ++ [Blk.gone]).set kk (Blk.arr true 1 (dig64 l1 ++ [PV.int IntKind.u64 (y : Int)])))[kk]? = some (Blk.arr true 1 (dig64 l1_1)) ∧ (q : Int) = x ∧ ∃ x, ((L ++ [Blk.gone]).set kk (Blk.arr true 1 (dig64 l1 ++ [PV.int IntKind.u64 (y : Int)])))[0]? = some (Blk.box [x]) :=
        ⟨l1 ++ [y], by simp [hl1], q, by simp [hca], hcl, by rw [List.getElem?_set_self (by simp; omega)]; simp [dig64], rfl, b0, by rw [List.getElem?_set_ne hk0]; exact app_old hL0⟩
      rcases Nat.lt_or_ge i l.length with h | h
      · simp [-getElem?_pos, h0, h2, h3, h4, h5, h, hc2, hwx, hwd, hw2, hrem, hquo, hl1, hlm, hkk, app_old hkk]
        exact fini
      · have h' : ¬ i < l.length := by omega
        have h0c : 0 < c := by omega
        simp [-getElem?_pos, h0, h2, h3, h4, h5, h', h0c, hc2, hwx, hwd, hw2, hrem, hquo, hl1, hlm, hkk, app_old hkk]
        exact fini) (by
      rintro ⟨e, L, H'⟩ ⟨l1, c, kk, b0, hl1, hca, hc, h0, h2, h3, hkk, h4, h5, hHH, hL0⟩
      simp at h0 h2 h3 hkk h4 h5 hHH hL0
      have hnil : carryD c (l.drop (carryD 0 l).length) = [] := by
        have := congrArg List.length hca
        rw [List.length_append, hl1] at this
        exact List.eq_nil_of_length_eq_zero (by omega)
      rw [hnil, List.append_nil] at hca
      have hno : ¬ (0 < (l.drop (carryD 0 l).length).length ∨ 0 < c) := fun h => by rw [carryD_eq h] at hnil; cases hnil
      rw [List.length_drop] at hno
      have h1 : ¬ (carryD 0 l).length < l.length := by omega
      have h2' : c = 0 := by omega
      subst h2'
      rw [← hca] at hkk
      simp [h0, h2, h3, h4, h5, h1, hHH]
      exact ⟨hkk, b0, hL0⟩)
  obtain ⟨rfl, kk, b0, h2, h3, hkk, hHH, hL0⟩ := hx
  simp at ho
  obtain ⟨r0, hr0⟩ : ∃ r0, carryD 0 l = r0 := ⟨_, rfl⟩
  rw [hr0] at h3 hkk hlen ⊢
  generalize hz : run tab E wl (Code.loop _) _ = z at ho
  obtain ⟨x, s', rfl, hx⟩ := loop_up (fun c s => E_loop) hz r0.length (fun i st => ∃ l1 b0, l1.length = r0.length - i ∧ trimD l1 = trimD r0 ∧ st.env 2 = .ptr H.length 0 0 ∧ Row64 H.length st.L (st.env 3) l1 ∧ st.H = H ∧ st.L[0]? = some (.box [b0]))
    (fun x st => x = .exit 2 ∧ ∃ b0, st.env 2 = .ptr H.length 0 0 ∧ Row64 H.length st.L (st.env 3) (trimD r0) ∧ st.H = H ∧ st.L[0]? = some (.box [b0]))
    ⟨r0, b0, by simp, rfl, h2, .inr ⟨kk, true, h3, hkk⟩, hHH, hL0⟩ (by
      rintro i ⟨e, L, H'⟩ hi ⟨l1, b1, hl1, htr, h2, hrow, hHH, hL0⟩
      simp at h2 hHH hL0
      subst hHH
      have hne : l1 ≠ [] := by rintro rfl; simp at hl1; omega
      have hp := List.length_pos_iff.2 hne
      have ht := trimD_last hne
      obtain ⟨d, hd⟩ : ∃ d, l1.getLast hne = d := ⟨_, rfl⟩
      have hc2 := fun (f : Bool) (L1 : List Blk) => top_call (wl := wl) f l1 hne (by omega) (L1 :: H') (by simp)
      rw [hd] at ht hc2
      have hw2 := i64w (n := (l1.length : Int) - 1) (by omega) (by omega)
      have htk : List.take (l1.length - 1) (dig64 l1) = dig64 l1.dropLast := by rw [List.dropLast_eq_take]; simp [dig64]
      rcases hrow with h3 | ⟨k2, live, h3, hkk⟩
      · simp at h3
        by_cases hd0 : d = 0
        · simp [-getElem?_pos, h2, h3, hp, hc2, hd0, hw2]
          exact ⟨by omega, by omega, l1.dropLast, by simp; omega, by rw [← htr, ht, if_pos hd0], .inl (by rw [htk]), b1, hL0⟩
        · simp [-getElem?_pos, h2, h3, hp, hc2, hd0]
          exact ⟨.inl (by rw [← htr, ht, if_neg hd0]), b1, hL0⟩
      · simp at h3 hkk
        have hkL := (List.getElem?_eq_some_iff.1 hkk).1
        have hk0 : k2 ≠ 0 := by
          rintro rfl
          rw [hkk] at hL0
          cases hL0
        have hks : ∀ b, (L.set k2 b)[k2]? = some b := fun b => List.getElem?_set_self hkL
        by_cases hd0 : d = 0
        · simp [-getElem?_pos, h2, h3, hp, hc2, hd0, hw2, hkk, hks]
          exact ⟨by omega, by omega, l1.dropLast, by simp; omega, by rw [← htr, ht, if_pos hd0], .inl (by rw [htk]), b1, by rw [List.getElem?_set_ne hk0]; exact hL0⟩
        · simp [-getElem?_pos, h2, h3, hp, hc2, hd0, hkk]
          exact ⟨by rw [← htr, ht, if_neg hd0]; exact .inr ⟨k2, false, rfl, hks _⟩, b1, by rw [List.getElem?_set_ne hk0]; exact hL0⟩) (by
      rintro ⟨e, L, H'⟩ ⟨l1, b1, hl1, htr, h2, hrow, hHH, hL0⟩
      simp at h2 hHH hL0
      subst hHH
      have hnil : l1 = [] := List.eq_nil_of_length_eq_zero (by omega)
      subst hnil
      rw [← htr]
      rcases hrow with h3 | ⟨k2, live, h3, hkk⟩
      · simp [dig64] at h3
        simp [h2, h3]
        exact ⟨.inl (by simp [trimD, dig64]), b1, hL0⟩
      · simp at h3 hkk
        simp [h2, h3]
        exact ⟨.inr ⟨k2, live, by simp [trimD], hkk⟩, b1, hL0⟩)
  obtain ⟨rfl, b1, h2, hrow, hHH, hL0⟩ := hx
  have h0s : ∀ b, (s'.L.set 0 b)[0]? = some b := fun b => List.getElem?_set_self (List.getElem?_eq_some_iff.1 hL0).1
  rcases hrow with h3 | ⟨k2, live, h3, hkk⟩
  · simp [-getElem?_pos, h2, h3, hHH, hL0, hH, h0s] at ho
    exact ho.symm
  · have hk0 : k2 ≠ 0 := by
      rintro rfl
      rw [hkk] at hL0
      cases hL0
    have hk1 : ∀ b, (s'.L.set 0 b)[k2]? = some (.arr live 1 (dig64 (trimD r0))) := fun b => by rw [List.getElem?_set_ne (fun h => hk0 h.symm)]; exact hkk
    simp [-getElem?_pos, h2, h3, hHH, hL0, hH, hkk, hk1, h0s] at ho
    exact ho.symm

theorem of_nat_call {wl : Nat} (f : Bool) (l : List Nat) (hl : l.length < 100000000000) (hd : ∀ d ∈ l, d ≤ 4294967295) (H : Heap) (hH : 0 < H.length) :
    E.call 138 wl [.lst f (dig l)] H = some (.ret (.agg [.lst false (dig64 (trimD (carryD 0 l)))]), H) := by
  refine (E_call Try.func138 rfl rfl (by kernel_rfl) rfl _ (by exact Nat.le_of_ble_eq_true rfl) H).trans ?_
  have hcap : ((l.length : Int)) * 8 ≤ (lim : Int) := by unfold lim; omega
  have hc := fun L1 : List Blk => carried_call (wl := wl) false l hl (fun d h => by have := hd d h; omega) (L1 :: H) (by simp)
  obtain ⟨r, hr⟩ : ∃ r, dig64 (trimD (carryD 0 l)) = r := ⟨_, rfl⟩
  rw [hr] at hc ⊢
  simp [Try.f138, hcap]
  generalize hz : run tab E wl (Code.loop _) _ = z
  obtain ⟨x, s', rfl, hx⟩ := loop_up (fun c s => E_loop) hz l.length (fun i st => ∃ b0, st.env 2 = .ptr H.length 0 0 ∧ st.env 3 = .own H.length 1 l.length 1 ∧ st.L[1]? = some (.arr true 1 (dig64 (l.take i ++ List.replicate (l.length - i) 0))) ∧ st.env 9 = .lst f (dig l) ∧ st.env 10 = .int .i64 l.length ∧ st.env 11 = .int .i64 i ∧ st.H = H ∧ st.L[0]? = some (.box [b0]))
    (fun x st => ∃ b0, x = .exit 0 ∧ st.env 2 = .ptr H.length 0 0 ∧ st.env 3 = .own H.length 1 l.length 1 ∧ st.L[1]? = some (.arr true 1 (dig64 l)) ∧ st.H = H ∧ st.L[0]? = some (.box [b0]))
    ⟨_, by simp, by simp, by simp [dig64], by simp, by simp, by simp, by simp, by simp; rfl⟩ (by
      rintro i ⟨e, L, H'⟩ hi ⟨b0, h2, h3, hL1, h9, h10, h11, hHH, hL0⟩
      simp only [] at h2 h3 hL1 h9 h10 h11 hHH hL0
      subst hHH
      obtain ⟨t, ht⟩ : ∃ t, l[i]? = some t := ⟨_, List.getElem?_eq_getElem hi⟩
      have htd := hd t (List.mem_of_getElem? ht)
      have hw := u64w (n := (t : Int)) (by omega) (by omega)
      have hw2 := i64w (n := (i : Int) + 1) (by omega) (by omega)
      have hln : (dig64 (l.take i ++ List.replicate (l.length - i) 0)).length = l.length := by simp; omega
      obtain ⟨xs, hxs⟩ : ∃ xs, dig64 (l.take i ++ List.replicate (l.length - i) 0) = xs := ⟨_, rfl⟩
      rw [hxs] at hL1 hln
      have hLl := (List.getElem?_eq_some_iff.1 hL1).1
      have hfin : (L.set 1 (.arr true 1 (xs.set i (.int .u64 t))))[1]? = some (.arr true 1 (dig64 (l.take (i + 1) ++ List.replicate (l.length - (i + 1)) 0))) := by
        rw [List.getElem?_set_self hLl, ← hxs]
        congr 2
        have hr1 : List.replicate (l.length - i) (0 : Nat) = 0 :: List.replicate (l.length - (i + 1)) 0 := by rw [← List.replicate_succ]; congr 1; omega
        have hil : i < l.length := hi
        rw [hr1, List.take_add_one, ht]
        simp [dig64, List.set_append, Nat.min_eq_left (Nat.le_of_lt hil)]
      simp [-getElem?_pos, h2, h3, hL1, h9, h10, h11, ht, hi, hw, hw2, hln]
      exact ⟨hfin, b0, hL0⟩) (by
      rintro ⟨e, L, H'⟩ ⟨b0, h2, h3, hL1, h9, h10, h11, hHH, hL0⟩
      simp at h2 h3 hL1 h9 h10 h11 hHH hL0
      simp [h2, h3, h9, h10, h11, hHH]
      exact ⟨hL1, b0, hL0⟩)
  obtain ⟨b0, rfl, h2, h3, hL1, hHH, hL0⟩ := hx
  have h0s : ∀ b, ((s'.L.set 1 (.arr false 1 (dig64 l))).set 0 b)[0]? = some b := fun b => List.getElem?_set_self (by have := (List.getElem?_eq_some_iff.1 hL0).1; simpa using this)
  simp [-getElem?_pos, h2, h3, hL1, hHH, hL0, hH, hc, h0s]

theorem u32w {n : Int} (h1 : 0 ≤ n) (h2 : n ≤ 4294967295) : IntKind.u32.wrap n = n := IntWalk.u32_in n ⟨h1, h2⟩

/-- A row that a loop makes, in a slot. -/
def RowD (d : Nat) (st : St) (v : PV) (l : List Nat) : Prop := (l = [] ∧ v = .lst true []) ∨ (l ≠ [] ∧ ∃ kk, v = .own d kk l.length 1 ∧ st.L[kk]? = some (.arr true 1 (dig l)))

theorem row_call {wl : Nat} (f : Bool) (l : List Nat) (hl : l.length < 1000000000000) (hd : ∀ d ∈ l, d ≤ 4294967295) (H : Heap) (hH : 0 < H.length) :
    E.call 141 wl [.agg [.lst f (dig64 l)]] H = some (.ret (.lst (rowF l) (dig l)), H) := by
  refine (E_call Try.func141 rfl rfl (by kernel_rfl) rfl _ (by exact Nat.le_of_ble_eq_true rfl) H).trans ?_
  obtain ⟨r, hr⟩ : ∃ r, PV.lst (rowF l) (dig l) = r := ⟨_, rfl⟩
  rw [hr]
  simp [Try.f141]
  generalize hz : run tab E wl (Code.loop _) _ = z
  obtain ⟨x, s', rfl, hx⟩ := loop_up (fun c s => E_loop) hz l.length (fun i st => RowD H.length st (st.env 3) (l.take i) ∧ st.env 7 = .lst f (dig64 l) ∧ st.env 8 = .int .i64 l.length ∧ st.env 9 = .int .i64 i ∧ st.H = H)
    (fun x st => x = .exit 0 ∧ RowD H.length st (st.env 3) l ∧ st.H = H)
    ⟨.inl ⟨by simp, by simp⟩, by simp, by simp, by simp, by simp⟩ (by
      rintro i ⟨e, L, H'⟩ hi ⟨hrow, h7, h8, h9, hHH⟩
      simp only [] at h7 h8 h9 hHH
      subst hHH
      obtain ⟨t, ht⟩ : ∃ t, l[i]? = some t := ⟨_, List.getElem?_eq_getElem hi⟩
      have htd := hd t (List.mem_of_getElem? ht)
      have hw := u32w (n := (t : Int)) (by omega) (by omega)
      have hw2 := i64w (n := (i : Int) + 1) (by omega) (by omega)
      have hil : i < l.length := hi
      have htk : l.take (i + 1) = l.take i ++ [t] := by rw [List.take_add_one, ht]; rfl
      rcases hrow with ⟨hnil, h3⟩ | ⟨hne, kk, h3, hkk⟩
      · simp at h3
        have hi0 : i = 0 := by
          have := congrArg List.length hnil
          simp at this
          rcases this with h | h
          · exact h
          · rw [h] at hil; simp at hil
        subst hi0
        simp [-getElem?_pos, h3, h7, h8, h9, ht, hi, hw, lim]
        exact .inr ⟨by simp [htk], L.length + 1, by simp [htk], by simp [htk, dig]⟩
      · simp at h3 hkk
        have hkl := (List.getElem?_eq_some_iff.1 hkk).1
        have hmin : min i l.length = i := by omega
        rw [hmin] at h3
        have hlm : (i + 1) * 4 ≤ lim := by unfold lim; omega
        have hdl : (dig (l.take i)).length = i := by simp; omega
        simp [-getElem?_pos, h3, h7, h8, h9, ht, hi, hw, hw2, app_old hkk, hlm, hmin]
        refine .inr ⟨by simp [htk], kk, ?_, ?_⟩
        · simp; omega
        · simp only []
          rw [List.getElem?_set_self (by simp; omega), htk]
          simp [dig]) (by
      rintro ⟨e, L, H'⟩ ⟨hrow, h7, h8, h9, hHH⟩
      simp at h7 h8 h9 hHH
      simp [h7, h8, h9, hHH]
      rw [List.take_length] at hrow
      exact hrow)
  obtain ⟨rfl, hrow, hHH⟩ := hx
  rcases hrow with ⟨rfl, h3⟩ | ⟨hne, kk, h3, hkk⟩
  · simp [h3, hHH, hH, ← hr, rowF, dig]
  · simp [h3, hHH, hH, hkk, ← hr, rowF, hne]

theorem Trim_call {wl : Nat} (f : Bool) (l : List Nat) (hl : l.length < 100000000000) (hd : ∀ d ∈ l, d ≤ 4294967295) (H : Heap) (hH : 0 < H.length) (hb : ∀ d ∈ normD l, d ≤ 4294967295) (hb2 : (normD l).length < 1000000000000) :
    E.call 134 wl [.lst f (dig l)] H = some (.ret (.lst (rowF (normD l)) (dig (normD l))), H) := by
  refine (E_call Try.func134 rfl rfl (by kernel_rfl) rfl _ (by exact Nat.le_of_ble_eq_true rfl) H).trans ?_
  have hc := fun L1 : List Blk => of_nat_call (wl := wl) f l hl hd (L1 :: H) (by simp)
  rw [← normD] at hc
  have hc2 := fun L1 : List Blk => row_call (wl := wl) false (normD l) hb2 hb (L1 :: H) (by simp)
  simp [Try.f134, hc, hc2, hH]

theorem zero_call {wl : Nat} (f : Bool) (l : List Nat) (H : Heap) (hH : 0 < H.length) :
    E.call 107 wl [.agg [.lst f (dig l)]] H = some (.ret (.bool (decide (l = []))), H) := by
  refine (E_call Try.func107 rfl rfl (by kernel_rfl) rfl _ (by exact Nat.le_of_ble_eq_true rfl) H).trans ?_
  cases l with
  | nil => simp [Try.f107, hH, dig]
  | cons a l =>
    have hne : ((l.length : Int) + 1 == 0) = false := by rw [beq_eq_false_iff_ne]; omega
    simp [Try.f107, hH, hne]

theorem made_call {wl : Nat} (f : Bool) (l : List Nat) (g : Bool) (hl : l.length < 100000000000) (hd : ∀ d ∈ l, d ≤ 4294967295) (H : Heap) (hH : 0 < H.length) (hb : ∀ d ∈ normD l, d ≤ 4294967295) (hb2 : (normD l).length < 1000000000000) :
    E.call 103 wl [.lst f (dig l), .bool g] H = some (.ret (.agg [.lst (rowF (normD l)) (dig (normD l)), .bool (g && !decide (normD l = []))]), H) := by
  refine (E_call Try.func103 rfl rfl (by kernel_rfl) rfl _ (by exact Nat.le_of_ble_eq_true rfl) H).trans ?_
  have hc := fun L1 : List Blk => Trim_call (wl := wl) f l hl hd (L1 :: H) (by simp) hb hb2
  have hc2 := fun (w2 : Nat) (L1 : List Blk) => zero_call (wl := w2) (rowF (normD l)) (normD l) (L1 :: H) (by simp)
  cases g with
  | true => simp [Try.f103, hc, hc2, hH]
  | false => simp [Try.f103, hc, hc2, hH]

theorem out_call {wl : Nat} (f : Bool) (l : List Nat) (g : Bool) (H : Heap) (hH : 0 < H.length) :
    E.call 56 wl [.agg [.lst f (dig l), .bool g]] H = some (.ret (.agg [.bool g, .lst f (dig l)]), H) := by
  refine (E_call Try.func56 rfl rfl (by kernel_rfl) rfl _ (by exact Nat.le_of_ble_eq_true rfl) H).trans ?_
  simp [Try.f56, hH]

/-- The digits of a number. -/
def digsN (n : Nat) : List Nat := normD (carryD n [])

theorem carryD_mod : ∀ (c : Nat), ∀ d ∈ carryD c [], d < B9 := fun c => by
  induction c using Nat.strongRecOn with
  | _ c ih =>
    rcases Nat.eq_zero_or_pos c with rfl | h
    · simp [carryD]
    · rw [carryD_nil h]
      intro d hd
      rcases List.mem_cons.1 hd with rfl | hd
      · exact Nat.mod_lt _ (by decide)
      · exact ih _ (Nat.div_lt_self h (by decide)) d hd

theorem small_call {wl : Nat} (n : Nat) (g : Bool) (hn : n < 18446744073709551616) (H : Heap) (hH : 0 < H.length) (hb : ∀ d ∈ digsN n, d ≤ 4294967295) (hb2 : (digsN n).length < 1000000000000) :
    E.call 57 wl [.int .u64 n, .bool g] H = some (.ret (.agg [.lst (rowF (digsN n)) (dig (digsN n)), .bool (g && !decide (digsN n = []))]), H) := by
  refine (E_call Try.func57 rfl rfl (by kernel_rfl) rfl _ (by exact Nat.le_of_ble_eq_true rfl) H).trans ?_
  have hl3 := carryD_length0 (c := n) (by omega)
  have hc := fun (f : Bool) (L1 : List Blk) => made_call (wl := wl) f (carryD n []) g (by omega) (fun d hd => by have : d < 1000000000 := carryD_mod n d hd; omega) (L1 :: H) (by simp) hb hb2
  rw [← digsN] at hc
  obtain ⟨r, hr⟩ : ∃ r, PV.agg [.lst (rowF (digsN n)) (dig (digsN n)), .bool (g && !decide (digsN n = []))] = r := ⟨_, rfl⟩
  rw [hr] at hc ⊢
  simp [Try.f57]
  generalize hz : run tab E wl (Code.loop _) _ = z
  obtain ⟨x, s', rfl, hx⟩ := loop_up (fun c s => E_loop) hz (carryD n []).length (fun i st => ∃ l1 c b0, l1.length = i ∧ carryD n [] = l1 ++ carryD c [] ∧ c ≤ n ∧ st.env 0 = .int .u64 c ∧ st.env 1 = .bool g ∧ st.env 4 = .ptr H.length 0 0 ∧ RowD H.length st (st.env 5) l1 ∧ st.H = H ∧ st.L[0]? = some (.box b0) ∧ b0.length = 2)
    (fun x st => ∃ b0, x = .exit 0 ∧ st.env 1 = .bool g ∧ st.env 4 = .ptr H.length 0 0 ∧ RowD H.length st (st.env 5) (carryD n []) ∧ st.H = H ∧ st.L[0]? = some (.box b0) ∧ b0.length = 2)
    ⟨[], n, _, rfl, rfl, Nat.le_refl _, by simp, by simp, by simp, .inl ⟨rfl, by simp⟩, by simp, by simp; rfl, rfl⟩ (by
      rintro i ⟨e, L, H'⟩ hi ⟨l1, c, b0, hl1, hca, hcn, h0, h1, h4, hrow, hHH, hL0, hb0⟩
      simp only [] at h0 h1 h4 hHH hL0
      subst hHH
      have hpos : 0 < c := by
        rcases Nat.eq_zero_or_pos c with rfl | h
        · rw [hca] at hi; simp [carryD, hl1] at hi
        · exact h
      rw [carryD_nil hpos] at hca
      obtain ⟨y, hy⟩ : ∃ y, c % B9 = y := ⟨_, rfl⟩
      obtain ⟨q, hq⟩ : ∃ q, c / B9 = q := ⟨_, rfl⟩
      have hq2 : q ≤ c := by rw [← hq]; exact Nat.div_le_self _ _
      have hy2 : y < 1000000000 := by rw [← hy]; exact Nat.mod_lt _ (by decide)
      rw [hy, hq] at hca
      have hrem : Int.tmod (c : Int) 1000000000 = (y : Int) := by rw [tmodN, hy]
      have hquo : Int.tdiv (c : Int) 1000000000 = (q : Int) := by rw [tdivN, hq]
      have hwq := u64w (n := (q : Int)) (by omega) (by omega)
      have hwy := u32w (n := (y : Int)) (by omega) (by omega)
      have hfin : carryD n [] = (l1 ++ [y]) ++ carryD q [] := by rw [hca]; simp
      rcases hrow with ⟨rfl, h5⟩ | ⟨hne, kk, h5, hkk⟩
      · simp at h5 hl1
        subst hl1
        simp [-getElem?_pos, h0, h1, h4, h5, hpos, hrem, hquo, hwq, hwy, lim]
        exact ⟨[y], rfl, q, hfin, by omega, rfl, .inr ⟨by simp, L.length + 1, by simp, by simp [dig]⟩, b0, app_old hL0, hb0⟩
      · simp at h5 hkk
        have hkl := (List.getElem?_eq_some_iff.1 hkk).1
        have hk0 : kk ≠ 0 := by
          rintro rfl
          rw [hkk] at hL0
          cases hL0
        have hlm : (i + 1) * 4 ≤ lim := by unfold lim; omega
        simp [-getElem?_pos, h0, h1, h4, h5, hpos, hrem, hquo, hwq, hwy, app_old hkk, hlm, hl1]
        refine ⟨l1 ++ [y], by simp [hl1], q, hfin, by omega, rfl, .inr ⟨by simp, kk, by simp [hl1], ?_⟩, b0, by rw [List.getElem?_set_ne hk0]; exact app_old hL0, hb0⟩
        simp only []
        rw [List.getElem?_set_self (by simp; omega)]
        simp [dig]) (by
      rintro ⟨e, L, H'⟩ ⟨l1, c, b0, hl1, hca, hcn, h0, h1, h4, hrow, hHH, hL0, hb0⟩
      simp only [] at h0 h1 h4 hHH hL0
      have hnil : carryD c [] = [] := by
        have := congrArg List.length hca
        rw [List.length_append, hl1] at this
        exact List.eq_nil_of_length_eq_zero (by omega)
      have hc0 : c = 0 := by
        rcases Nat.eq_zero_or_pos c with h | h
        · exact h
        · rw [carryD_nil h] at hnil; cases hnil
      rw [hnil, List.append_nil] at hca
      subst hc0
      rw [← hca] at hrow
      simp [h0, h1, h4, hHH]
      exact ⟨hrow, b0, hL0, hb0⟩)
  obtain ⟨b0, rfl, h1, h4, hrow, hHH, hL0, hb0⟩ := hx
  obtain ⟨a0, a1, rfl⟩ : ∃ a0 a1, b0 = [a0, a1] := by
    match b0, hb0 with
    | [a0, a1], _ => exact ⟨a0, a1, rfl⟩
  subst hr
  have h0s : ∀ b, (s'.L.set 0 b)[0]? = some b := fun b => List.getElem?_set_self (List.getElem?_eq_some_iff.1 hL0).1
  rcases hrow with ⟨hnil, h5⟩ | ⟨hne, kk, h5, hkk⟩
  · rw [hnil] at hc
    rw [show dig [] = [] from rfl] at hc
    simp [-getElem?_pos, h1, h4, h5, hHH, hL0, hH, hc, h0s]
  · have hk0 : kk ≠ 0 := by
      rintro rfl
      rw [hkk] at hL0
      cases hL0
    have h0t : ∀ b c, ((s'.L.set kk c).set 0 b)[0]? = some b := fun b c => List.getElem?_set_self (by simpa using (List.getElem?_eq_some_iff.1 hL0).1)
    have h0u : ∀ c, (s'.L.set kk c)[0]? = some (.box [a0, a1]) := fun c => by rw [List.getElem?_set_ne hk0]; exact hL0
    simp [-getElem?_pos, h1, h4, h5, hHH, hL0, hH, hc, h0s, h0t, h0u, hkk]

def intOf (n : Int) : PV := .agg [.bool (decide (n < 0) && !decide (digsN n.natAbs = [])), .lst (rowF (digsN n.natAbs)) (dig (digsN n.natAbs))]

theorem Of_call {wl : Nat} (n : Int) (hn : -9223372036854775808 ≤ n ∧ n ≤ 9223372036854775807) (H : Heap) (hH : 0 < H.length) (hb : ∀ d ∈ digsN n.natAbs, d ≤ 4294967295) (hb2 : (digsN n.natAbs).length < 1000000000000) :
    E.call 19 wl [.int .i64 n] H = some (.ret (intOf n), H) := by
  refine (E_call Try.func19 rfl rfl (by kernel_rfl) rfl _ (by exact Nat.le_of_ble_eq_true rfl) H).trans ?_
  have hc := fun (g : Bool) (L1 : List Blk) => small_call (wl := wl) n.natAbs g (by omega) (L1 :: H) (by simp) hb hb2
  have hc2 := fun (g : Bool) (L1 : List Blk) => out_call (wl := wl) (rowF (digsN n.natAbs)) (digsN n.natAbs) g (L1 :: H) (by simp)
  rcases Int.lt_or_le n 0 with h | h
  · have h1 : IntKind.u64.wrap n = n + 18446744073709551616 := by rw [wrap_u64]; omega
    have h2 : IntKind.u64.wrap (-(n + 18446744073709551616)) = (n.natAbs : Int) := by rw [wrap_u64]; omega
    simp [Try.f19, h, h1, h2, hc, hc2, hH, intOf]
    done
  · have h1 : IntKind.u64.wrap n = (n.natAbs : Int) := by rw [wrap_u64]; omega
    have h3 : ¬ n < 0 := by omega
    simp [Try.f19, h3, h1, hc, hc2, hH, intOf]
    done
end Go.GL.Seat

/-! Walks, I: sums, sizes, rows of one's own (packages term, norm). -/
namespace Go.GL.Seat
open Go.Proofs
set_option maxRecDepth 100000
set_option maxHeartbeats 8000000

theorem sum_succ (l : List Nat) (i : Nat) (x : Nat) (h : l[i]? = some x) : (l.take (i + 1)).sum = (l.take i).sum + x := by
  rw [List.take_add_one, h]; simp

def ksz (l : List Tm) : List Nat := l.map fun t => sizes t.ks
theorem sizes_eq (l : List Tm) : sizes l = l.length + (ksz l).sum := by
  induction l with
  | nil => rfl
  | cons t l ih =>
    obtain ⟨a, b, c, d, e, f, g⟩ := t
    simp [sizes, Tm.size, ksz, Tm.ks] at *
    omega
theorem take_le (l : List Nat) (i : Nat) : (l.take i).sum ≤ l.sum := by
  have := List.take_append_drop i l
  calc (l.take i).sum ≤ (l.take i).sum + (l.drop i).sum := Nat.le_add_right _ _
    _ = l.sum := by rw [← List.sum_append, this]
theorem sizes_kid {l : List Tm} {i : Nat} {t : Tm} (h : l[i]? = some t) : sizes t.ks < sizes l := by
  induction l generalizing i with
  | nil => cases h
  | cons x l ih =>
    cases i with
    | zero => simp at h; subst h; obtain ⟨a, b, c, d, e, f, g⟩ := x; simp [sizes, Tm.size, Tm.ks]; omega
    | succ i => have := ih (i := i) (by simpa using h); simp [sizes]; omega

theorem Size_call {wl : Nat} (n : Nat) : ∀ (f : Bool) (l : List Tm) (H : Heap), sizes l ≤ n → n < 1000000000000 → 0 < H.length → E.call 61 wl [.lst f (encs l)] H = some (.ret (.int .i64 (sizes l)), H) := by
  induction n using Nat.strongRecOn with
  | _ n ih =>
  intro f l H hn hb hH
  refine (E_call Try.func61 rfl rfl (by kernel_rfl) rfl _ (by exact Nat.le_of_ble_eq_true rfl) H).trans ?_
  simp [Try.f61]
  generalize hz : run tab E wl (Code.loop _) _ = z
  obtain ⟨x, s', rfl, hx, h3, hH'⟩ := loop_up (fun c s => E_loop) hz l.length (fun i s => s.env 8 = .lst f (encs l) ∧ s.env 9 = .int .i64 l.length ∧ s.env 10 = .int .i64 i ∧ s.env 3 = .int .i64 (l.length + ((ksz l).take i).sum : Nat) ∧ s.H = H)
    (fun x s => x = .exit 0 ∧ s.env 3 = .int .i64 (sizes l) ∧ s.H = H) (by simp) (by
      rintro i ⟨e, L, H'⟩ hi ⟨h8, h9, h10, h3, rfl⟩
      obtain ⟨t, ht⟩ : ∃ t, l[i]? = some t := ⟨_, List.getElem?_eq_getElem hi⟩
      have hk := sizes_kid ht
      have hs := sum_succ (ksz l) i (sizes t.ks) (by simp [ksz, ht])
      have hl := take_le (ksz l) (i + 1)
      have he := sizes_eq l
      have hc := ih (sizes t.ks) (by omega) t.kf t.ks
      obtain ⟨tk, tn, tg, tf, td, tkf, tks⟩ := t
      simp only [Tm.ks, Tm.kf] at *
      simp at h8 h9 h10 h3
      have hw := i64w (n := (l.length : Int) + ((ksz l).take i).sum + sizes tks) (by omega) (by omega)
      have hw2 := i64w (n := (i : Int) + 1) (by omega) (by omega)
      simp [-getElem?_pos, h8, h9, h10, h3, ht, Tm.enc, hi, hc, hw, hw2, Nat.le_refl, hs, show sizes tks < 1000000000000 by omega]
      omega) (by
      rintro ⟨e, L, H'⟩ ⟨h8, h9, h10, h3, rfl⟩
      simp at h8 h9 h10 h3
      simp [h8, h9, h10, h3, sizes_eq]
      simp [ksz, List.take_of_length_le])
  subst hx
  simp [h3, hH', hH]

theorem min_pv (a b : Int) : (if b < a then b else a) = min a b := by split <;> omega

def i64L (l : List Nat) : List PV := l.map fun (d : Nat) => .int .i64 d
@[simp] theorem i64L_length (l : List Nat) : (i64L l).length = l.length := by simp [i64L]
@[simp high] theorem i64L_get (l : List Nat) (i : Nat) : (i64L l)[i]? = (l[i]?).map fun (d : Nat) => PV.int .i64 d := by simp [i64L]

theorem nsum_call {wl : Nat} (f : Bool) (l : List Nat) (hl : l.length < 1000) (hd : ∀ d ∈ l, d < 1000000000000) (H : Heap) (hH : 0 < H.length) :
    E.call 63 wl [.lst f (i64L l)] H = some (.ret (.int .i64 (min l.sum 20001 : Nat)), H) := by
  refine (E_call Try.func63 rfl rfl (by kernel_rfl) rfl _ (by exact Nat.le_of_ble_eq_true rfl) H).trans ?_
  obtain ⟨r, hr⟩ : ∃ r, min l.sum 20001 = r := ⟨_, rfl⟩
  rw [hr]
  simp [Try.f63]
  generalize hz : run tab E wl (Code.loop _) _ = z
  obtain ⟨x, s', rfl, hx, h3, hH'⟩ := loop_up (fun c s => E_loop) hz l.length (fun i s => s.env 6 = .lst f (i64L l) ∧ s.env 7 = .int .i64 l.length ∧ s.env 8 = .int .i64 i ∧ s.env 3 = .int .i64 (min (l.take i).sum 20001 : Nat) ∧ s.H = H)
    (fun x s => x = .exit 0 ∧ s.env 3 = .int .i64 r ∧ s.H = H) (by simp) (by
      rintro i ⟨e, L, H'⟩ hi ⟨h6, h7, h8, h3, rfl⟩
      obtain ⟨t, ht⟩ : ∃ t, l[i]? = some t := ⟨_, List.getElem?_eq_getElem hi⟩
      have hs := sum_succ l i t ht
      have hdt := hd t (List.mem_of_getElem? ht)
      obtain ⟨a, ha⟩ : ∃ a, (l.take i).sum = a := ⟨_, rfl⟩
      rw [ha] at hs h3
      obtain ⟨m, hm⟩ : ∃ m, min a 20001 = m := ⟨_, rfl⟩
      rw [hm] at h3
      have hm2 : m ≤ 20001 := by omega
      simp only [] at h6 h7 h8 h3
      have hw := i64w (n := (m : Int) + t) (by omega) (by omega)
      have hw2 := i64w (n := (i : Int) + 1) (by omega) (by omega)
      simp [-getElem?_pos, h6, h7, h8, h3, ht, hi, hw, hw2, hs]
      split <;> omega) (by
      rintro ⟨e, L, H'⟩ ⟨h6, h7, h8, h3, rfl⟩
      simp at h6 h7 h8 h3
      simp [h6, h7, h8, h3, ← hr])
  subst hx
  simp [h3, hH', hH]

/-- A row's mark as the program makes it. -/
def ownT : Tm → Tm
  | .mk k nm ng _ ds _ ks => .mk k nm ng (rowF ds) ds (rowF ks) (ownTs ks)
where ownTs : List Tm → List Tm
  | [] => []
  | t :: ts => ownT t :: ownTs ts
theorem ownTs_map (l : List Tm) : ownT.ownTs l = l.map ownT := by
  induction l with
  | nil => rfl
  | cons t l ih => simp [ownT.ownTs, ih]

def RowT (d : Nat) (st : St) (v : PV) (l : List Tm) : Prop := (l = [] ∧ v = .lst true []) ∨ (l ≠ [] ∧ ∃ kk, v = .own d kk l.length 5 ∧ st.L[kk]? = some (.arr true 5 (encs l)))

mutual
/-- Rows of lengths that numbers hold. -/
def okT : Tm → Prop
  | .mk _ _ _ _ ds _ ks => ds.length < 100000000000 ∧ ks.length < 100000000000 ∧ okTs ks
def okTs : List Tm → Prop
  | [] => True
  | t :: ts => okT t ∧ okTs ts
end
theorem okTs_mem {l : List Tm} (h : okTs l) {t : Tm} (ht : t ∈ l) : okT t := by
  induction l with
  | nil => cases ht
  | cons x l ih =>
    rcases List.mem_cons.1 ht with rfl | ht
    · exact h.1
    · exact ih h.2 ht
theorem okTs_of {l : List Tm} (h : ∀ t ∈ l, okT t) : okTs l := by
  induction l with
  | nil => trivial
  | cons x l ih => exact ⟨h x List.mem_cons_self, ih fun t ht => h t (List.mem_cons_of_mem _ ht)⟩
mutual
theorem okT_bulk : ∀ t : Tm, t.bulk < 100000000000 → okT t
  | .mk _ nm _ _ ds _ ks, h => by
    simp only [Tm.bulk] at h
    have := bulks_length ks
    exact ⟨by omega, by omega, okTs_bulk ks (by omega)⟩
theorem okTs_bulk : ∀ l : List Tm, bulks l < 100000000000 → okTs l
  | [], _ => trivial
  | t :: ts, h => by
    simp only [bulks] at h
    exact ⟨okT_bulk t (by omega), okTs_bulk ts (by omega)⟩
end
theorem sizes_mem {l : List Tm} {t : Tm} (h : t ∈ l) : t.size ≤ sizes l := by
  induction l with
  | nil => cases h
  | cons x l ih =>
    rcases List.mem_cons.1 h with rfl | h
    · simp [sizes]
    · have := ih h; simp [sizes]; omega

theorem nown_call {wl : Nat} (n : Nat) : ∀ (t : Tm) (H : Heap), t.size ≤ n → okT t → 0 < H.length → E.call 22 wl [t.enc] H = some (.ret (ownT t).enc, H) := by
  induction n using Nat.strongRecOn with
  | _ n ih =>
  intro t H hn hok hH
  refine (E_call Try.func22 rfl rfl (by kernel_rfl) rfl _ (by exact Nat.le_of_ble_eq_true rfl) H).trans ?_
  obtain ⟨k, nm, ng, df, dg, kf, ks⟩ := t
  simp only [Tm.size] at hn
  obtain ⟨hok1, hkl, hok2⟩ := hok
  have hc := fun (L1 : List Blk) => clone_call (wl := wl) df dg (L1 :: H) (by simp) (by omega)
  obtain ⟨r, hr⟩ : ∃ r, (ownT (.mk k nm ng df dg kf ks)).enc = r := ⟨_, rfl⟩
  rw [hr]
  simp only [ownT, ownTs_map] at hr
  obtain ⟨os, hos⟩ : ∃ os, ks.map ownT = os := ⟨_, rfl⟩
  have hol : os.length = ks.length := by rw [← hos]; simp
  rw [hos] at hr
  simp [Try.f22, Tm.enc, hc]
  generalize hz : run tab E wl (Code.loop _) _ = z
  obtain ⟨x, s', rfl, hx⟩ := loop_up (fun c s => E_loop) hz ks.length (fun i st => ∃ b2, st.env 1 = .ptr H.length 0 0 ∧ st.env 2 = .ptr H.length 1 0 ∧ RowT H.length st (st.env 3) (os.take i) ∧ st.env 13 = .lst kf (encs ks) ∧ st.env 14 = .int .i64 ks.length ∧ st.env 15 = .int .i64 i ∧ st.H = H ∧ st.L[0]? = some (.box [.int .u8 k, .str nm, .bool ng, .lst (rowF dg) (dig dg), .lst kf (encs ks)]) ∧ st.L[1]? = some (.box b2) ∧ b2.length = 5)
    (fun x st => ∃ b2, x = .exit 0 ∧ st.env 1 = .ptr H.length 0 0 ∧ st.env 2 = .ptr H.length 1 0 ∧ RowT H.length st (st.env 3) os ∧ st.H = H ∧ st.L[0]? = some (.box [.int .u8 k, .str nm, .bool ng, .lst (rowF dg) (dig dg), .lst kf (encs ks)]) ∧ st.L[1]? = some (.box b2) ∧ b2.length = 5)
    ⟨_, by simp, by simp, .inl ⟨by simp, by simp⟩, by simp, by simp, by simp, by simp, by simp, by simp; rfl, rfl⟩ (by
      rintro i ⟨e, L, H'⟩ hi ⟨b2, h1, h2, hrow, h13, h14, h15, hHH, hL0, hL1, hb2⟩
      simp only [] at h1 h2 h13 h14 h15 hHH hL0 hL1
      subst hHH
      obtain ⟨t, ht⟩ : ∃ t, ks[i]? = some t := ⟨_, List.getElem?_eq_getElem hi⟩
      have htb := sizes_mem (List.mem_of_getElem? ht)
      have hto := okTs_mem hok2 (List.mem_of_getElem? ht)
      have hc2 := fun (L1 : List Blk) => ih t.size (by omega) t (L1 :: H') (Nat.le_refl _) hto (by simp)
      have hw2 := i64w (n := (i : Int) + 1) (by omega) (by omega)
      have hil : i < ks.length := hi
      have hou : os[i]? = some (ownT t) := by rw [← hos, List.getElem?_map, ht]; rfl
      have htk : os.take (i + 1) = os.take i ++ [ownT t] := by rw [List.take_add_one, hou]; rfl
      obtain ⟨tk, tn, tg, tf, td, tkf, tks⟩ := t
      simp only [Tm.enc] at hc2
      obtain ⟨u, hu⟩ : ∃ u, ownT (.mk tk tn tg tf td tkf tks) = u := ⟨_, rfl⟩
      rw [hu] at hc2 htk
      obtain ⟨uk, un, ug, uf, ud, ukf, uks⟩ := u
      simp only [Tm.enc] at hc2
      rcases hrow with ⟨hnil, h3⟩ | ⟨hne, kk, h3, hkk⟩
      · simp at h3
        have hi0 : i = 0 := by
          have := congrArg List.length hnil
          simp at this
          rcases this with h | h
          · exact h
          · rw [h] at hol; simp at hol; omega
        subst hi0
        simp [-getElem?_pos, h1, h2, h3, h13, h14, h15, ht, Tm.enc, hi, hc2, lim]
        refine ⟨.inr ⟨by simp [htk], L.length + 2, by simp [htk], ?_⟩, app_old hL0, b2, app_old hL1, hb2⟩
        simp [htk, encs, Tm.enc]
      · simp at h3 hkk
        have hkl := (List.getElem?_eq_some_iff.1 hkk).1
        have hk0 : kk ≠ 0 := by
          rintro rfl
          rw [hkk] at hL0
          cases hL0
        have hk1 : kk ≠ 1 := by
          rintro rfl
          rw [hkk] at hL1
          cases hL1
        have hmin : min i os.length = i := by omega
        rw [hmin] at h3
        have hlm : (i + 1) * 80 ≤ lim := by unfold lim; omega
        simp [-getElem?_pos, h1, h2, h3, h13, h14, h15, ht, Tm.enc, hi, hc2, hw2, app_old hkk, hlm, hmin]
        refine ⟨.inr ⟨by simp [htk], kk, by simp; omega, ?_⟩, by rw [List.getElem?_set_ne hk0]; exact app_old hL0, b2, by rw [List.getElem?_set_ne hk1]; exact app_old hL1, hb2⟩
        simp only []
        rw [List.getElem?_set_self (by simp; omega), htk]
        simp [encs_map, Tm.enc]) (by
      rintro ⟨e, L, H'⟩ ⟨b2, h1, h2, hrow, h13, h14, h15, hHH, hL0, hL1, hb2⟩
      simp only [] at h1 h2 h13 h14 h15 hHH hL0 hL1
      rw [← hol, List.take_length] at hrow
      simp [h1, h2, h13, h14, h15, hHH]
      exact ⟨hrow, hL0, b2, hL1, hb2⟩)
  obtain ⟨b2, rfl, h1, h2, hrow, hHH, hL0, hL1, hb2⟩ := hx
  obtain ⟨a0, a1, a2, a3, a4, rfl⟩ : ∃ a0 a1 a2 a3 a4, b2 = [a0, a1, a2, a3, a4] := by
    match b2, hb2 with
    | [a0, a1, a2, a3, a4], _ => exact ⟨a0, a1, a2, a3, a4, rfl⟩
  have h0s : ∀ b, (s'.L.set 0 b)[0]? = some b := fun b => List.getElem?_set_self (List.getElem?_eq_some_iff.1 hL0).1
  have h1s : ∀ b, (s'.L.set 0 b)[1]? = some (.box [a0, a1, a2, a3, a4]) := fun b => by rw [List.getElem?_set_ne (by omega)]; exact hL1
  have h1t : ∀ b c, ((s'.L.set 0 b).set 1 c)[1]? = some c := fun b c => List.getElem?_set_self (by simpa using (List.getElem?_eq_some_iff.1 hL1).1)
  rcases hrow with ⟨hnil, h3⟩ | ⟨hne, kk, h3, hkk⟩
  · have hks : ks = [] := List.eq_nil_of_length_eq_zero (by rw [← hol, hnil]; rfl)
    subst hks hnil
    simp [-getElem?_pos, h1, h2, h3, hHH, hL0, hL1, h0s, h1s, h1t, hH, ← hr, Tm.enc, rowF, encs]
    done
  · have hks : ks ≠ [] := by rintro rfl; exact hne (List.eq_nil_of_length_eq_zero hol)
    have hk0 : kk ≠ 0 := by
      rintro rfl
      rw [hkk] at hL0
      cases hL0
    have hk1 : kk ≠ 1 := by
      rintro rfl
      rw [hkk] at hL1
      cases hL1
    have hks2 : ∀ b c, ((s'.L.set 0 b).set 1 c)[kk]? = s'.L[kk]? := fun b c => by rw [List.getElem?_set_ne (fun h => hk1 h.symm), List.getElem?_set_ne (fun h => hk0 h.symm)]
    simp [-getElem?_pos, h1, h2, h3, hHH, hL0, hL1, h0s, h1s, h1t, hH, ← hr, Tm.enc, rowF, hks, hkk, hks2]
    done
end Go.GL.Seat

/-! Walks, J: what sorts tell of kids; the sizes that pushing comes to (package norm). -/
namespace Go.GL.Seat
open Go.Proofs
set_option maxRecDepth 100000
set_option maxHeartbeats 8000000

/-- A code's loops. -/
def loopsOf : Code → List Code
  | .seq a b => loopsOf a ++ loopsOf b
  | .cond _ a b => loopsOf a ++ loopsOf b
  | .block _ c => loopsOf c
  | .loop c => c :: loopsOf c
  | _ => []
def loopAt (f : Func) (i : Nat) : Code := ((loopsOf (bodyOf f))[i]?).getD .skip

theorem kids_ok {ds : List Dt} {ss : List Sc} {k : Nat} {nm : ByteArray} {ng df : Bool} {dg : List Nat} {kf : Bool} {ks : List Tm} {s : ByteArray} (h : sortS ds ss (.mk k nm ng df dg kf ks) = .ok s) :
    (∃ n, many k = some n ∧ manyOk n ks.length = true) ∧ (k ≠ 1 → ∃ l, sortsS ds ss ks = .ok l ∧ kindSort ds k nm l = .ok s) := by
  rw [sortS] at h
  cases hm : many k with
  | none => rw [hm] at h; cases h
  | some n =>
    rw [hm] at h
    simp only [] at h
    cases ho : manyOk n ks.length with
    | false => rw [ho] at h; simp at h
    | true =>
      rw [ho] at h
      simp only [Bool.true_eq_false, if_false] at h
      refine ⟨⟨n, rfl, ho⟩, fun hk => ?_⟩
      by_cases h2 : (k = 2 ∨ k = 6) ∧ rightN ng dg = false
      · rw [if_pos h2] at h; cases h
      · rw [if_neg h2, if_neg hk] at h
        cases hs : sortsS ds ss ks with
        | error e => rw [hs] at h; cases h
        | ok l => rw [hs] at h; exact ⟨l, rfl, h⟩

theorem sorts_get {ds : List Dt} {ss : List Sc} {ks : List Tm} {l : List ByteArray} (h : sortsS ds ss ks = .ok l) {i : Nat} {t : Tm} (ht : ks[i]? = some t) : ∃ s, l[i]? = some s ∧ sortS ds ss t = .ok s := by
  induction ks generalizing l i with
  | nil => cases ht
  | cons x ks ih =>
    simp only [sortsS] at h
    cases h1 : sortS ds ss x with
    | error e => rw [h1] at h; cases h
    | ok s =>
      rw [h1] at h
      simp only [] at h
      cases h2 : sortsS ds ss ks with
      | error e => rw [h2] at h; cases h
      | ok r =>
        rw [h2] at h
        injection h with h
        subst h
        cases i with
        | zero => simp at ht; subst ht; exact ⟨s, rfl, h1⟩
        | succ i => exact ih h2 (by simpa using ht)

mutual
theorem size_le_bulk : ∀ t : Tm, t.size ≤ t.bulk
  | .mk _ nm _ _ ds _ ks => by
    have := sizes_le_bulks ks
    simp only [Tm.size, Tm.bulk]
    omega
theorem sizes_le_bulks : ∀ l : List Tm, sizes l ≤ bulks l
  | [] => Nat.le_refl _
  | t :: ts => by
    have h1 := size_le_bulk t
    have h2 := sizes_le_bulks ts
    simp only [sizes, bulks]
    omega
end

def capS (l : List Nat) : Nat := min l.sum 20001
def sums (l : List (Nat × Nat)) : Nat × Nat := (capS (1 :: l.map (·.1)), capS (1 :: l.map (·.2)))

def wholeK (ds : List Dt) (ss : List Sc) : List Tm → Bool
  | t :: _ => wholeS ds ss t
  | [] => false

mutual
/-- How great a formula is that has its denials pushed in: asserted, denied. -/
def fsz (ds : List Dt) (ss : List Sc) : Tm → Nat × Nat
  | .mk k _ _ _ _ _ ks =>
    if k = 3 ∨ k = 4 then (1, 1)
    else if k = 9 then (sizes ks + 1, sizes ks + 3)
    else if k = 10 then (match fszs ds ss ks with
      | p :: _ => (p.2, p.1)
      | [] => (0, 0))
    else if k = 11 ∨ k = 12 then sums (fszs ds ss ks)
    else if k = 13 then (capS [(sums (fszs ds ss ks)).1, (sums (fszs ds ss ks)).2, 1], capS [(sums (fszs ds ss ks)).1, (sums (fszs ds ss ks)).2, 1])
    else if k = 8 ∧ wholeK ds ss ks = true then (sizes ks + 1, capS [sizes ks + 1, sizes ks + 1, 5])
    else (sizes ks + 1, sizes ks + 2)
def fszs (ds : List Dt) (ss : List Sc) : List Tm → List (Nat × Nat)
  | [] => []
  | t :: ts => fsz ds ss t :: fszs ds ss ts
end
theorem fszs_map (ds : List Dt) (ss : List Sc) (l : List Tm) : fszs ds ss l = l.map (fsz ds ss) := by
  induction l with
  | nil => rfl
  | cons t l ih => simp [fszs, ih]
theorem capS_le (l : List Nat) : capS l ≤ 20001 := Nat.min_le_right _ _

mutual
theorem fsz_le (ds : List Dt) (ss : List Sc) : ∀ t : Tm, (fsz ds ss t).1 ≤ t.bulk + 20001 ∧ (fsz ds ss t).2 ≤ t.bulk + 20001
  | .mk k nm ng df dg kf ks => by
    have hs := sizes_le_bulks ks
    have hc := capS_le
    simp only [Tm.bulk]
    rw [fsz]
    split
    · exact ⟨by omega, by omega⟩
    split
    · exact ⟨by simp only []; omega, by simp only []; omega⟩
    split
    · split
      · rename_i p q hp
        have := fszs_le ds ss ks p (by rw [hp]; exact List.mem_cons_self)
        exact ⟨by simp only []; omega, by simp only []; omega⟩
      · exact ⟨by simp only []; omega, by simp only []; omega⟩
    split
    · have h1 := hc (1 :: (fszs ds ss ks).map (·.1))
      have h2 := hc (1 :: (fszs ds ss ks).map (·.2))
      exact ⟨by simp only [sums]; omega, by simp only [sums]; omega⟩
    split
    · have h1 := hc [(sums (fszs ds ss ks)).1, (sums (fszs ds ss ks)).2, 1]
      exact ⟨by simp only []; omega, by simp only []; omega⟩
    split
    · have h1 := hc [sizes ks + 1, sizes ks + 1, 5]
      exact ⟨by simp only []; omega, by simp only []; omega⟩
    · exact ⟨by simp only []; omega, by simp only []; omega⟩
theorem fszs_le (ds : List Dt) (ss : List Sc) : ∀ (l : List Tm) (p : Nat × Nat), p ∈ fszs ds ss l → p.1 ≤ bulks l + 20001 ∧ p.2 ≤ bulks l + 20001
  | [], p, h => by simp [fszs] at h
  | t :: ts, p, h => by
    simp only [fszs] at h
    simp only [bulks]
    rcases List.mem_cons.1 h with rfl | h
    · have := fsz_le ds ss t
      exact ⟨by omega, by omega⟩
    · have := fszs_le ds ss ts p h
      exact ⟨by omega, by omega⟩
end

theorem capS_cap (a b : Nat) : capS [capS [a], b] = capS [a, b] := by simp only [capS, List.sum_cons, List.sum_nil]; omega

theorem size_call (n : Nat) : ∀ {wl : Nat} (t : Tm) {fd : Bool} {ds : List Dt} {fs : Bool} {ss : List Sc} (H : Heap), t.bulk ≤ n → n < 100000000000 → okD ds → ss.length < 1000000000000 → (∃ s, sortS ds ss t = .ok s) → wl ≤ H.length → 0 < H.length →
    E.call 21 wl [frm fd (encD ds) fs (encS ss) t] H = some (.ret (.tup [.int .i64 (fsz ds ss t).1, .int .i64 (fsz ds ss t).2]), H) := by
  induction n using Nat.strongRecOn with
  | _ n ih =>
  intro wl t fd ds fs ss H hn hb hds hss hsort hw hH
  refine (E_call Try.func21 rfl rfl (by kernel_rfl) rfl _ (by exact Nat.le_of_ble_eq_true rfl) H).trans ?_
  obtain ⟨s, hsort⟩ := hsort
  have hfk := fun (j : Nat) (kid : Tm) (hk : t.ks[j]? = some kid) (L1 : List Blk) => fkid_call (wl := wl) fd (encD ds) fs (encS ss) hk (L1 :: H) (by simp)
  obtain ⟨k, nm, ng, df, dg, kf, ks⟩ := t
  obtain ⟨⟨m, hm, hmo⟩, hkids⟩ := kids_ok hsort
  simp only [Tm.bulk] at hn
  have hkl := bulks_length ks
  have hsb := sizes_le_bulks ks
  have hS := fun L1 : List Blk => Size_call (wl := wl) (sizes [.mk k nm ng df dg kf ks]) true [.mk k nm ng df dg kf ks] (L1 :: H) (Nat.le_refl _) (by simp only [sizes, Tm.size]; omega) (by simp)
  simp only [encs, Tm.enc, sizes, Tm.size, Nat.add_zero] at hS
  obtain ⟨r, hr⟩ : ∃ r, fsz ds ss (.mk k nm ng df dg kf ks) = r := ⟨_, rfl⟩
  rw [hr]
  rw [fsz] at hr
  simp only [frm, k_mk, nm_mk, ng_mk, df_mk, ds_mk, kf_mk, ks_mk] at hfk ⊢
  obtain ⟨z, hz⟩ : ∃ z, sizes ks + 1 = z := ⟨_, rfl⟩
  rw [hz] at hr hS
  by_cases h34 : k = 3 ∨ k = 4
  · rw [if_pos h34] at hr
    subst hr
    rcases h34 with rfl | rfl <;> simp at hS <;> simp [Try.f21, hS, hH]
  rw [if_neg h34] at hr
  have h3 : k ≠ 3 := fun h => h34 (.inl h)
  have h4 : k ≠ 4 := fun h => h34 (.inr h)
  by_cases h9 : k = 9
  · subst h9
    have hw2 := i64w (n := (z : Int) + 2) (by omega) (by omega)
    simp at hr hS
    subst hr
    simp [Try.f21, hS, hw2, hH]
    omega
  rw [if_neg h9] at hr
  by_cases h10 : k = 10
  · subst h10
    simp at hr
    have : ks.length = 1 := by
      simp [many] at hm
      subst hm
      simp [manyOk] at hmo
      omega
    obtain ⟨kid, rfl⟩ : ∃ kid, ks = [kid] := by
      match ks, this with
      | [a], _ => exact ⟨a, rfl⟩
    obtain ⟨l, hl, _⟩ := hkids (by omega)
    obtain ⟨s1, _, hs1⟩ := sorts_get hl (i := 0) rfl
    have hf := hfk 0 kid rfl
    have hi := fun L1 : List Blk => ih kid.bulk (by simp only [bulks] at hn; omega) (wl := wl) kid (fd := fd) (fs := fs) (L1 :: H) (Nat.le_refl _) (by simp only [bulks] at hn; omega) hds hss ⟨s1, hs1⟩ (by simp; omega) (by simp)
    simp only [frm] at hi
    simp [fszs] at hr
    subst hr
    simp at hf hS
    simp [Try.f21, hS, hf, hi, hH]
    done
  rw [if_neg h10] at hr
  by_cases h123 : k = 11 ∨ k = 12 ∨ k = 13
  · have hk1 : k ≠ 1 := by omega
    obtain ⟨l, hl, _⟩ := hkids hk1
    have hloop : ∀ (st : St), st.env 1 = .ptr H.length 0 0 → st.env 2 = .int .i64 1 → st.env 3 = .int .i64 1 → st.env 41 = .int .i64 ks.length → st.env 42 = .int .i64 0 → st.H = H → st.L[0]? = some (.box [.lst fd (encD ds), .lst fs (encS ss), .int .u8 k, .str nm, .bool ng, .lst df (dig dg), .lst kf (encs ks)]) → ∀ {z}, run tab E wl (.loop (loopAt Try.f21 0)) st = z →
        ∃ x s', z = some (x, s') ∧ s'.H = H ∧ x = .exit 1 ∧ s'.env 2 = .int .i64 (sums (fszs ds ss ks)).1 ∧ s'.env 3 = .int .i64 (sums (fszs ds ss ks)).2 ∧ s'.env 1 = .ptr H.length 0 0 ∧ s'.L[0]? = some (.box [.lst fd (encD ds), .lst fs (encS ss), .int .u8 k, .str nm, .bool ng, .lst df (dig dg), .lst kf (encs ks)]) := by
      intro st h1 h2 h3 h41 h42 hHH hL0 z hz
      obtain ⟨q, hq⟩ : ∃ q, fszs ds ss ks = q := ⟨_, rfl⟩
      have hql : q.length = ks.length := by rw [← hq, fszs_map]; simp
      rw [hq]
      refine loop_up (fun c s => E_loop) hz ks.length (fun i st => st.env 1 = .ptr H.length 0 0 ∧ st.env 2 = .int .i64 (sums (q.take i)).1 ∧ st.env 3 = .int .i64 (sums (q.take i)).2 ∧ st.env 41 = .int .i64 ks.length ∧ st.env 42 = .int .i64 i ∧ st.H = H ∧ st.L[0]? = some (.box [.lst fd (encD ds), .lst fs (encS ss), .int .u8 k, .str nm, .bool ng, .lst df (dig dg), .lst kf (encs ks)]))
        (fun x s' => s'.H = H ∧ x = .exit 1 ∧ s'.env 2 = .int .i64 (sums q).1 ∧ s'.env 3 = .int .i64 (sums q).2 ∧ s'.env 1 = .ptr H.length 0 0 ∧ s'.L[0]? = some (.box [.lst fd (encD ds), .lst fs (encS ss), .int .u8 k, .str nm, .bool ng, .lst df (dig dg), .lst kf (encs ks)]))
        ⟨h1, by rw [h2]; rfl, by rw [h3]; rfl, h41, h42, hHH, hL0⟩ ?_ ?_
      · rintro i ⟨e, L, H'⟩ hi ⟨h1, h2, h3, h41, h42, hHH, hL0⟩
        simp only [] at h1 h2 h3 h41 h42 hHH hL0
        subst hHH
        obtain ⟨kid, hkid⟩ : ∃ kid, ks[i]? = some kid := ⟨_, List.getElem?_eq_getElem hi⟩
        obtain ⟨s1, _, hs1⟩ := sorts_get hl hkid
        have hkb := bulks_mem (List.mem_of_getElem? hkid)
        have hf := hfk i kid hkid
        have hi2 := fun L1 : List Blk => ih kid.bulk (by omega) (wl := wl) kid (fd := fd) (fs := fs) (L1 :: H') (Nat.le_refl _) (by omega) hds hss ⟨s1, hs1⟩ (by simp; omega) (by simp)
        simp only [frm] at hi2
        have hfl := fsz_le ds ss kid
        obtain ⟨p, hp⟩ : ∃ p, fsz ds ss kid = p := ⟨_, rfl⟩
        rw [hp] at hi2 hfl
        have hqi : q[i]? = some p := by rw [← hq, fszs_map, List.getElem?_map, hkid, Option.map_some, hp]
        have hqt : q.take (i + 1) = q.take i ++ [p] := by rw [List.take_add_one, hqi]; rfl
        obtain ⟨a, ha⟩ : ∃ a, (sums (q.take i)).1 = a := ⟨_, rfl⟩
        obtain ⟨b, hb⟩ : ∃ b, (sums (q.take i)).2 = b := ⟨_, rfl⟩
        have ha2 : a ≤ 20001 := by rw [← ha]; exact capS_le _
        have hb2 : b ≤ 20001 := by rw [← hb]; exact capS_le _
        have hA : (sums (q.take (i + 1))).1 = min (a + p.1) 20001 := by rw [hqt, ← ha]; simp [sums, capS]; omega
        have hB : (sums (q.take (i + 1))).2 = min (b + p.2) 20001 := by rw [hqt, ← hb]; simp [sums, capS]; omega
        rw [ha] at h2
        rw [hb] at h3
        have hs1 := fun (L1 : List Blk) => nsum_call (wl := wl) true [a, p.1] (by simp) (by simp; omega) (L1 :: H') (by simp)
        have hs2 := fun (L1 : List Blk) => nsum_call (wl := wl) true [b, p.2] (by simp) (by simp; omega) (L1 :: H') (by simp)
        simp [i64L] at hs1 hs2
        have hw2 := i64w (n := (i : Int) + 1) (by omega) (by omega)
        simp [-getElem?_pos, loopAt, loopsOf, bodyOf, Try.f21, h1, h2, h3, h41, h42, hL0, hi, hf, hi2, hs1, hs2, hw2, hA, hB]
        exact app_old hL0
      · rintro ⟨e, L, H'⟩ ⟨h1, h2, h3, h41, h42, hHH, hL0⟩
        simp only [] at h1 h2 h3 h41 h42 hHH hL0
        rw [← hql, List.take_length] at h2 h3
        simp [loopAt, loopsOf, bodyOf, Try.f21, h1, h2, h3, h41, h42, hHH, hL0]
    obtain ⟨y, hy⟩ : ∃ y, sums (fszs ds ss ks) = y := ⟨_, rfl⟩
    rw [hy] at hr hloop
    rcases h123 with rfl | rfl | rfl
    · simp at hS hr
      simp [Try.f21, hS]
      generalize hz : run tab E wl (Code.loop _) _ = z
      obtain ⟨x, s', rfl, hHH, rfl, h2, h3, h1, hL0⟩ := hloop _ (by simp) (by simp) (by simp) (by simp) (by simp) (by simp) (by simp) hz
      simp [hHH, h2, h3, h1, hL0, hH, hr]
    · simp at hS hr
      simp [Try.f21, hS]
      generalize hz : run tab E wl (Code.loop _) _ = z
      obtain ⟨x, s', rfl, hHH, rfl, h2, h3, h1, hL0⟩ := hloop _ (by simp) (by simp) (by simp) (by simp) (by simp) (by simp) (by simp) hz
      simp [hHH, h2, h3, h1, hL0, hH, hr]
    · simp at hS hr
      have hy1 : y.1 ≤ 20001 := by rw [← hy]; exact capS_le _
      have hy2 : y.2 ≤ 20001 := by rw [← hy]; exact capS_le _
      have hsm := fun (L1 : List Blk) => nsum_call (wl := wl) true [y.1, y.2, 1] (by simp) (by simp; omega) (L1 :: H) (by simp)
      rw [← capS] at hsm
      simp [i64L] at hsm
      subst hr
      simp [Try.f21, hS]
      generalize hz : run tab E wl (Code.loop _) _ = z
      obtain ⟨x, s', rfl, hHH, rfl, h2, h3, h1, hL0⟩ := hloop _ (by simp) (by simp) (by simp) (by simp) (by simp) (by simp) (by simp) hz
      simp [hHH, h2, h3, h1, hL0, hH, hsm]
  rw [if_neg (by omega), if_neg (by omega)] at hr
  by_cases h8 : k = 8
  · subst h8
    have : ks.length = 2 := by
      simp [many] at hm
      subst hm
      simp [manyOk] at hmo
      omega
    obtain ⟨kid, kid2, rfl⟩ : ∃ kid kid2, ks = [kid, kid2] := by
      match ks, this with
      | [a, b], _ => exact ⟨a, b, rfl⟩
    have hwh := fun (L1 : List Blk) => whole_call (wl := H.length + 1) (t := kid) (fd := fd) (fs := fs) (by simp only [bulks] at hn; omega) hds hss (L1 :: H) (by simp) (by simp)
    simp only [wholeK] at hr
    obtain ⟨qk, qn, qg, qf, qd, qkf, qks⟩ := kid
    simp only [Tm.enc] at hwh
    simp [encs, Tm.enc] at hS
    have hsum := fun (L1 : List Blk) => nsum_call (wl := wl) true [z, z, 5] (by simp) (by simp; omega) (L1 :: H) (by simp)
    simp [i64L] at hsum
    have hw1 := i64w (n := (z : Int) + 1) (by omega) (by omega)
    cases hwk : wholeS ds ss (.mk qk qn qg qf qd qkf qks) with
    | true =>
      rw [hwk] at hr hwh
      simp at hr
      subst hr
      simp [-getElem?_pos, Try.f21, hS, hwh, encs, Tm.enc, hsum, hH]
      simp [capS]
    | false =>
      rw [hwk] at hr hwh
      simp at hr
      subst hr
      simp [-getElem?_pos, Try.f21, hS, hwh, encs, Tm.enc, hw1, hH]
      omega
  rw [if_neg (by omega)] at hr
  subst hr
  have hw1 := i64w (n := (z : Int) + 1) (by omega) (by omega)
  have c : ∀ a : Int, (k : Int) ≠ a → ((k : Int) == a) = false := fun a h => by rw [beq_eq_false_iff_ne]; exact h
  have c3 := c 3 (by omega)
  have c4 := c 4 (by omega)
  have c9 := c 9 (by omega)
  have c10 := c 10 (by omega)
  have c11 := c 11 (by omega)
  have c12 := c 12 (by omega)
  have c13 := c 13 (by omega)
  have c8 := c 8 (by omega)
  simp [Try.f21, hS, hw1, hH, c3, c4, c8, c9, c10, c11, c12, c13]
  omega
end Go.GL.Seat

/-! Walks, K: pushing denials in (package norm). -/
namespace Go.GL.Seat
open Go.Proofs
set_option maxRecDepth 100000
set_option maxHeartbeats 8000000

theorem digsN_one : digsN 1 = [1] := by
  have h0 : (1 : Nat) / B9 = 0 := rfl
  have h1 : (1 : Nat) % B9 = 1 := rfl
  rw [digsN, carryD_nil (by omega), h0, h1]
  simp [carryD, normD, trimD, h0, h1]
theorem intOf_one : intOf 1 = .agg [.bool false, .lst false [.int .u32 1]] := by
  have h : (1 : Int).natAbs = 1 := rfl
  simp [intOf, h, digsN_one, rowF, dig]
theorem Of_one {wl : Nat} (H : Heap) (hH : 0 < H.length) : E.call 19 wl [.int .i64 1] H = some (.ret (.agg [.bool false, .lst false [.int .u32 1]]), H) := by
  have h : (1 : Int).natAbs = 1 := rfl
  rw [Of_call (wl := wl) 1 (by omega) H hH (by rw [h, digsN_one]; simp) (by rw [h, digsN_one]; simp), intOf_one]

@[simp] theorem dig_nil : dig [] = [] := rfl
@[simp] theorem dig_one : dig [1] = [.int .u32 1] := rfl
def oneT : Tm := .mk 2 bNil false false [1] true []
def aboveT (a b : Tm) : Tm := ofT 9 true [ofT 5 true [a, oneT], b]

theorem above_call {wl : Nat} (a b : Tm) (H : Heap) (hH : 0 < H.length) :
    E.call 114 wl [a.enc, b.enc] H = some (.ret (aboveT a b).enc, H) := by
  refine (E_call Try.func114 rfl rfl (by kernel_rfl) rfl _ (by exact Nat.le_of_ble_eq_true rfl) H).trans ?_
  have h1 := fun (w2 : Nat) (L1 : List Blk) => Of_one (wl := w2) (L1 :: H) (by simp)
  have h2 := fun (w2 : Nat) (L1 : List Blk) => of_call (wl := w2) 5 true [a, oneT] (L1 :: H) (by simp)
  have h3 := fun (w2 : Nat) (L1 : List Blk) => of_call (wl := w2) 9 true [ofT 5 true [a, oneT], b] (L1 :: H) (by simp)
  obtain ⟨ak, an, ag, af, ad, akf, aks⟩ := a
  obtain ⟨bk, bn, bg, bf, bd, bkf, bks⟩ := b
  simp [oneT, ofT, encs, Tm.enc] at h2 h3
  simp [Try.f114, Tm.enc, h1, aboveT, ofT, oneT, encs, hH, h2, h3]

/-- What is denied, and no connective. -/
def denT (ds : List Dt) (ss : List Sc) (t : Tm) : Tm :=
  match t.ks with
  | [a, b] => if t.k = 9 then aboveT b a else if t.k = 8 ∧ wholeS ds ss a = true then ofT 12 true [aboveT a b, aboveT b a] else ofT 10 true [t]
  | _ => ofT 10 true [t]

theorem denied_call {wl : Nat} (t : Tm) {fd : Bool} {ds : List Dt} {fs : Bool} {ss : List Sc} (H : Heap) (hb : t.bulk < 100000000000) (hds : okD ds) (hss : ss.length < 1000000000000) (hk : t.k = 8 ∨ t.k = 9 → t.ks.length = 2) (hw : wl ≤ H.length) (hH : 0 < H.length) :
    E.call 71 wl [frm fd (encD ds) fs (encS ss) t] H = some (.ret (denT ds ss t).enc, H) := by
  refine (E_call Try.func71 rfl rfl (by kernel_rfl) rfl _ (by exact Nat.le_of_ble_eq_true rfl) H).trans ?_
  have hof := fun (w2 : Nat) (L1 : List Blk) => of_call (wl := w2) 10 true [t] (L1 :: H) (by simp)
  obtain ⟨k, nm, ng, df, dg, kf, ks⟩ := t
  simp only [frm, k_mk, nm_mk, ng_mk, df_mk, ds_mk, kf_mk, ks_mk] at hk ⊢
  simp [ofT, encs, Tm.enc] at hof
  by_cases h9 : k = 9
  · subst h9
    obtain ⟨a, b, rfl⟩ : ∃ a b, ks = [a, b] := by
      match ks, hk (.inr rfl) with
      | [a, b], _ => exact ⟨a, b, rfl⟩
    have h1 := fun (w2 : Nat) (L1 : List Blk) => above_call (wl := w2) b a (L1 :: H) (by simp)
    simp only [denT, ks_mk, k_mk, if_true]
    obtain ⟨r, hr⟩ : ∃ r, aboveT b a = r := ⟨_, rfl⟩
    rw [hr] at h1 ⊢
    obtain ⟨rk, rn, rg, rf, rd, rkf, rks⟩ := r
    obtain ⟨ak, an, ag, af, ad, akf, aks⟩ := a
    obtain ⟨bk, bn, bg, bf, bd, bkf, bks⟩ := b
    simp only [Tm.enc] at h1
    simp [Try.f71, Tm.enc, encs, h1, hH]
  by_cases h8 : k = 8
  · subst h8
    obtain ⟨a, b, rfl⟩ : ∃ a b, ks = [a, b] := by
      match ks, hk (.inl rfl) with
      | [a, b], _ => exact ⟨a, b, rfl⟩
    have h1 := fun (w2 : Nat) (L1 : List Blk) => above_call (wl := w2) b a (L1 :: H) (by simp)
    have h2 := fun (w2 : Nat) (L1 : List Blk) => above_call (wl := w2) a b (L1 :: H) (by simp)
    have h3 := fun (w2 : Nat) (L1 : List Blk) => or_call (wl := w2) true [aboveT a b, aboveT b a] (L1 :: H) (by simp)
    have hwh := fun (L1 : List Blk) => whole_call (wl := H.length + 1) (t := a) (fd := fd) (fs := fs) (by simp only [Tm.bulk, bulks] at hb; omega) hds hss (L1 :: H) (by simp) (by simp)
    simp only [denT, ks_mk, k_mk]
    obtain ⟨r, hr⟩ : ∃ r, aboveT b a = r := ⟨_, rfl⟩
    obtain ⟨q, hq⟩ : ∃ q, aboveT a b = q := ⟨_, rfl⟩
    rw [hr] at h1 h3 ⊢
    rw [hq] at h2 h3 ⊢
    obtain ⟨rk, rn, rg, rf, rd, rkf, rks⟩ := r
    obtain ⟨qk, qn, qg, qf, qd, qkf, qks⟩ := q
    obtain ⟨ak, an, ag, af, ad, akf, aks⟩ := a
    obtain ⟨bk, bn, bg, bf, bd, bkf, bks⟩ := b
    simp only [Tm.enc] at h1 h2 hwh
    simp [ofT, encs, Tm.enc] at h3
    simp [encs, Tm.enc] at hof
    cases hwk : wholeS ds ss (.mk ak an ag af ad akf aks) with
    | true =>
      rw [hwk] at hwh
      simp [Try.f71, Tm.enc, encs, h1, h2, h3, hwh, hH, ofT]
    | false =>
      rw [hwk] at hwh
      simp [Try.f71, Tm.enc, encs, hof, hwh, hH, ofT]
  have hd : denT ds ss (.mk k nm ng df dg kf ks) = ofT 10 true [.mk k nm ng df dg kf ks] := by
    simp [denT, h9, h8]
    split <;> rfl
  rw [hd]
  have c : ∀ a : Int, (k : Int) ≠ a → ((k : Int) == a) = false := fun a h => by rw [beq_eq_false_iff_ne]; exact h
  have c9 := c 9 (by omega)
  have c8 := c 8 (by omega)
  simp [Try.f71, Tm.enc, encs, hof, hH, ofT, c8, c9]
end Go.GL.Seat

/-! Walks, L: pushing denials in, the whole (package norm). -/
namespace Go.GL.Seat
open Go.Proofs
set_option maxRecDepth 100000
set_option maxHeartbeats 8000000

def iffT (yes no : List Tm) (is : Bool) : Tm :=
  match yes, no with
  | [a, b], [c, d] => if is then ofT 11 true [ofT 12 true [c, b], ofT 12 true [d, a]] else ofT 11 true [ofT 12 true [a, b], ofT 12 true [c, d]]
  | _, _ => default

mutual
/-- Denials pushed in. -/
def psh (ds : List Dt) (ss : List Sc) (is : Bool) : Tm → Tm
  | .mk k nm ng df dg kf ks =>
    if k = 3 ∨ k = 4 then ofT (if decide (k = 3) = is then 3 else 4) true []
    else if k = 10 then (match pshs ds ss (!is) ks with
      | t :: _ => t
      | [] => default)
    else if k = 13 then iffT (pshs ds ss true ks) (pshs ds ss false ks) is
    else if k = 11 ∨ k = 12 then ofT (if decide (k = 11) = is then 11 else 12) (rowF ks) (pshs ds ss is ks)
    else if is = true then .mk k nm ng df dg kf ks else denT ds ss (.mk k nm ng df dg kf ks)
def pshs (ds : List Dt) (ss : List Sc) (is : Bool) : List Tm → List Tm
  | [] => []
  | t :: ts => psh ds ss is t :: pshs ds ss is ts
end
theorem pshs_map (ds : List Dt) (ss : List Sc) (is : Bool) (l : List Tm) : pshs ds ss is l = l.map (psh ds ss is) := by
  induction l with
  | nil => rfl
  | cons t l ih => simp [pshs, ih]

/-- What pushing a term in comes to on the machine. -/
def PushC (fd : Bool) (ds : List Dt) (fs : Bool) (ss : List Sc) (t : Tm) : Prop := ∀ (wl : Nat) (is : Bool) (H : Heap), wl ≤ H.length → 0 < H.length →
  E.call 23 wl [frm fd (encD ds) fs (encS ss) t, .bool is] H = some (.ret (psh ds ss is t).enc, H)

theorem fall_call {wl : Nat} {t : Tm} {fd : Bool} {ds : List Dt} {fs : Bool} {ss : List Sc} (is : Bool) (hk : ∀ kid ∈ t.ks, PushC fd ds fs ss kid) (hb : t.ks.length < 100000000000) (H : Heap) (hw : wl ≤ H.length) (hH : 0 < H.length) :
    E.call 70 wl [frm fd (encD ds) fs (encS ss) t, .bool is] H = some (.ret (.lst (rowF t.ks) (encs (pshs ds ss is t.ks))), H) := by
  refine (E_call Try.func70 rfl rfl (by kernel_rfl) rfl _ (by exact Nat.le_of_ble_eq_true rfl) H).trans ?_
  have hfk := fun (j : Nat) (kid : Tm) (hk : t.ks[j]? = some kid) (L1 : List Blk) => fkid_call (wl := wl) fd (encD ds) fs (encS ss) hk (L1 :: H) (by simp)
  obtain ⟨k, nm, ng, df, dg, kf, ks⟩ := t
  simp only [frm, k_mk, nm_mk, ng_mk, df_mk, ds_mk, kf_mk, ks_mk] at hk hfk hb ⊢
  obtain ⟨os, hos⟩ : ∃ os, pshs ds ss is ks = os := ⟨_, rfl⟩
  have hol : os.length = ks.length := by rw [← hos, pshs_map]; simp
  rw [hos]
  obtain ⟨r, hr⟩ : ∃ r, PV.lst (rowF ks) (encs os) = r := ⟨_, rfl⟩
  rw [hr]
  simp [Try.f70]
  generalize hz : run tab E wl (Code.loop _) _ = z
  obtain ⟨x, s', rfl, hx⟩ := loop_up (fun c s => E_loop) hz ks.length (fun i st => st.env 1 = .bool is ∧ st.env 2 = .ptr H.length 0 0 ∧ RowT H.length st (st.env 5) (os.take i) ∧ st.env 10 = .int .i64 ks.length ∧ st.env 11 = .int .i64 i ∧ st.H = H ∧ st.L[0]? = some (.box [.lst fd (encD ds), .lst fs (encS ss), .int .u8 k, .str nm, .bool ng, .lst df (dig dg), .lst kf (encs ks)]))
    (fun x st => x = .exit 0 ∧ RowT H.length st (st.env 5) os ∧ st.H = H)
    ⟨by simp, by simp, .inl ⟨by simp, by simp⟩, by simp, by simp, by simp, by simp⟩ (by
      rintro i ⟨e, L, H'⟩ hi ⟨h1, h2, hrow, h10, h11, hHH, hL0⟩
      simp only [] at h1 h2 h10 h11 hHH hL0
      subst hHH
      obtain ⟨t, ht⟩ : ∃ t, ks[i]? = some t := ⟨_, List.getElem?_eq_getElem hi⟩
      have hf := hfk i t ht
      have hp := fun (L1 : List Blk) => hk t (List.mem_of_getElem? ht) wl is (L1 :: H') (by simp; omega) (by simp)
      simp only [frm] at hp
      have hw2 := i64w (n := (i : Int) + 1) (by omega) (by omega)
      have hil : i < ks.length := hi
      have hou : os[i]? = some (psh ds ss is t) := by rw [← hos, pshs_map, List.getElem?_map, ht]; rfl
      have htk : os.take (i + 1) = os.take i ++ [psh ds ss is t] := by rw [List.take_add_one, hou]; rfl
      obtain ⟨u, hu⟩ : ∃ u, psh ds ss is t = u := ⟨_, rfl⟩
      rw [hu] at hp htk
      obtain ⟨uk, un, ug, uf, ud, ukf, uks⟩ := u
      simp only [Tm.enc] at hp
      rcases hrow with ⟨hnil, h5⟩ | ⟨hne, kk, h5, hkk⟩
      · simp at h5
        have hi0 : i = 0 := by
          have := congrArg List.length hnil
          simp at this
          rcases this with h | h
          · exact h
          · rw [h] at hol; simp at hol; omega
        subst hi0
        simp at hf
        simp [-getElem?_pos, h1, h2, h5, h10, h11, hL0, hi, hf, hp, lim]
        refine ⟨.inr ⟨by simp [htk], L.length + 1, by simp [htk], ?_⟩, app_old hL0⟩
        simp [htk, encs, Tm.enc]
      · simp at h5 hkk
        have hkl := (List.getElem?_eq_some_iff.1 hkk).1
        have hk0 : kk ≠ 0 := by
          rintro rfl
          rw [hkk] at hL0
          cases hL0
        have hmin : min i os.length = i := by omega
        rw [hmin] at h5
        have hlm : (i + 1) * 80 ≤ lim := by unfold lim; omega
        simp [-getElem?_pos, h1, h2, h5, h10, h11, hL0, hi, hf, hp, hw2, app_old hkk, hlm, hmin]
        refine ⟨.inr ⟨by simp [htk], kk, by simp; omega, ?_⟩, by rw [List.getElem?_set_ne hk0]; exact app_old hL0⟩
        simp only []
        rw [List.getElem?_set_self (by simp; omega), htk]
        simp [encs_map, Tm.enc]) (by
      rintro ⟨e, L, H'⟩ ⟨h1, h2, hrow, h10, h11, hHH, hL0⟩
      simp only [] at h1 h2 h10 h11 hHH hL0
      rw [← hol, List.take_length] at hrow
      simp [h1, h2, h10, h11, hHH]
      exact hrow)
  obtain ⟨rfl, hrow, hHH⟩ := hx
  rcases hrow with ⟨hnil, h5⟩ | ⟨hne, kk, h5, hkk⟩
  · have hks : ks = [] := List.eq_nil_of_length_eq_zero (by rw [← hol, hnil]; rfl)
    subst hks hnil
    simp [h5, hHH, hH, ← hr, rowF, encs]
  · have hks : ks ≠ [] := by rintro rfl; exact hne (List.eq_nil_of_length_eq_zero hol)
    simp [h5, hHH, hH, hkk, ← hr, rowF, hks]

theorem iff_call {wl : Nat} {t : Tm} {fd : Bool} {ds : List Dt} {fs : Bool} {ss : List Sc} (is : Bool) (hk : ∀ kid ∈ t.ks, PushC fd ds fs ss kid) (hl : t.ks.length = 2) (H : Heap) (hw : wl ≤ H.length) (hH : 0 < H.length) :
    E.call 67 wl [frm fd (encD ds) fs (encS ss) t, .bool is] H = some (.ret (iffT (pshs ds ss true t.ks) (pshs ds ss false t.ks) is).enc, H) := by
  refine (E_call Try.func67 rfl rfl (by kernel_rfl) rfl _ (by exact Nat.le_of_ble_eq_true rfl) H).trans ?_
  have ha := fun (g : Bool) (w2 : Nat) (L1 : List Blk) (hw : w2 ≤ (L1 :: H).length) => fall_call (wl := w2) (t := t) g hk (by omega) (L1 :: H) hw (by simp)
  have ha1 := fun (g : Bool) (L1 : List Blk) => ha g (H.length + 1) L1 (by simp)
  obtain ⟨k, nm, ng, df, dg, kf, ks⟩ := t
  simp only [frm, k_mk, nm_mk, ng_mk, df_mk, ds_mk, kf_mk, ks_mk] at hk hl ha1 ⊢
  obtain ⟨x, y, rfl⟩ : ∃ x y, ks = [x, y] := by
    match ks, hl with
    | [a, b], _ => exact ⟨a, b, rfl⟩
  have ha2 := ha1 true
  have ha3 := ha1 false
  clear ha1
  simp only [pshs, rowF, encs] at ha2 ha3 ⊢
  obtain ⟨a, h1⟩ : ∃ a, psh ds ss true x = a := ⟨_, rfl⟩
  obtain ⟨b, h2⟩ : ∃ b, psh ds ss true y = b := ⟨_, rfl⟩
  obtain ⟨c, h3⟩ : ∃ c, psh ds ss false x = c := ⟨_, rfl⟩
  obtain ⟨d, h4⟩ : ∃ d, psh ds ss false y = d := ⟨_, rfl⟩
  rw [h1, h2] at ha2 ⊢
  rw [h3, h4] at ha3 ⊢
  simp only [iffT]
  have o1 := fun (w2 : Nat) (L1 : List Blk) => or_call (wl := w2) true [c, b] (L1 :: H) (by simp)
  have o2 := fun (w2 : Nat) (L1 : List Blk) => or_call (wl := w2) true [d, a] (L1 :: H) (by simp)
  have o3 := fun (w2 : Nat) (L1 : List Blk) => or_call (wl := w2) true [a, b] (L1 :: H) (by simp)
  have o4 := fun (w2 : Nat) (L1 : List Blk) => or_call (wl := w2) true [c, d] (L1 :: H) (by simp)
  have p1 := fun (w2 : Nat) (L1 : List Blk) => and_call (wl := w2) true [ofT 12 true [c, b], ofT 12 true [d, a]] (L1 :: H) (by simp)
  have p2 := fun (w2 : Nat) (L1 : List Blk) => and_call (wl := w2) true [ofT 12 true [a, b], ofT 12 true [c, d]] (L1 :: H) (by simp)
  obtain ⟨ak, an, ag, af, ad, akf, aks⟩ := a
  obtain ⟨bk, bn, bg, bf, bd, bkf, bks⟩ := b
  obtain ⟨ck, cn, cg, cf, cd, ckf, cks⟩ := c
  obtain ⟨dk, dn, dg', df', dd, dkf, dks⟩ := d
  simp [ofT, encs, Tm.enc] at o1 o2 o3 o4 p1 p2
  simp [Tm.enc] at ha2 ha3
  cases is with
  | true => simp [Try.f67, Tm.enc, encs, ha2, ha3, o1, o2, p1, hH, ofT]
  | false => simp [Try.f67, Tm.enc, encs, ha2, ha3, o3, o4, p2, hH, ofT]
end Go.GL.Seat

/-! Walks, M: pushing denials in: push and Push (package norm). -/
namespace Go.GL.Seat
open Go.Proofs
set_option maxRecDepth 100000
set_option maxHeartbeats 8000000

theorem push_call (n : Nat) : ∀ (t : Tm) {fd : Bool} {ds : List Dt} {fs : Bool} {ss : List Sc}, t.bulk ≤ n → n < 100000000000 → okD ds → ss.length < 1000000000000 → (∃ s, sortS ds ss t = .ok s) → PushC fd ds fs ss t := by
  induction n using Nat.strongRecOn with
  | _ n ih =>
  intro t fd ds fs ss hn hb hds hss hsort wl is H hw hH
  refine (E_call Try.func23 rfl rfl (by kernel_rfl) rfl _ (by exact Nat.le_of_ble_eq_true rfl) H).trans ?_
  obtain ⟨s, hsort⟩ := hsort
  have hfk := fun (j : Nat) (kid : Tm) (hk : t.ks[j]? = some kid) (L1 : List Blk) => fkid_call (wl := wl) fd (encD ds) fs (encS ss) hk (L1 :: H) (by simp)
  have hfa := fun hk hl (g : Bool) (L1 : List Blk) => fall_call (wl := wl) (t := t) (fd := fd) (ds := ds) (fs := fs) (ss := ss) g hk hl (L1 :: H) (by simp; omega) (by simp)
  have hif := fun hk hl (g : Bool) (L1 : List Blk) => iff_call (wl := wl) (t := t) (fd := fd) (ds := ds) (fs := fs) (ss := ss) g hk hl (L1 :: H) (by simp; omega) (by simp)
  have hdn := fun hk (L1 : List Blk) => denied_call (wl := wl) t (fd := fd) (ds := ds) (fs := fs) (ss := ss) (L1 :: H) (by omega) hds hss hk (by simp; omega) (by simp)
  obtain ⟨k, nm, ng, df, dg, kf, ks⟩ := t
  obtain ⟨⟨m, hm, hmo⟩, hkids⟩ := kids_ok hsort
  simp only [Tm.bulk] at hn
  have hkl := bulks_length ks
  simp only [frm, k_mk, nm_mk, ng_mk, df_mk, ds_mk, kf_mk, ks_mk] at hfk hfa hif hdn ⊢
  obtain ⟨r, hr⟩ : ∃ r, psh ds ss is (.mk k nm ng df dg kf ks) = r := ⟨_, rfl⟩
  rw [hr]
  rw [psh] at hr
  have hpk : k ≠ 1 → ∀ kid ∈ ks, PushC fd ds fs ss kid := by
    intro hk1 kid hkid
    obtain ⟨l, hl, _⟩ := hkids hk1
    obtain ⟨i, hi⟩ := List.getElem?_of_mem hkid
    obtain ⟨s1, _, hs1⟩ := sorts_get hl hi
    have := bulks_mem hkid
    exact ih kid.bulk (by omega) kid (Nat.le_refl _) (by omega) hds hss ⟨s1, hs1⟩
  by_cases h34 : k = 3 ∨ k = 4
  · rw [if_pos h34] at hr
    have o3 := fun (L1 : List Blk) => of_call (wl := wl) 3 true [] (L1 :: H) (by simp)
    have o4 := fun (L1 : List Blk) => of_call (wl := wl) 4 true [] (L1 :: H) (by simp)
    simp [ofT, encs, Tm.enc] at o3 o4
    subst hr
    rcases h34 with rfl | rfl <;> cases is <;> simp [Try.f23, o3, o4, hH, ofT, Tm.enc, encs]
  rw [if_neg h34] at hr
  have h3 : k ≠ 3 := fun h => h34 (.inl h)
  have h4 : k ≠ 4 := fun h => h34 (.inr h)
  by_cases h10 : k = 10
  · subst h10
    rw [if_pos rfl] at hr
    have : ks.length = 1 := by
      simp [many] at hm
      subst hm
      simp [manyOk] at hmo
      omega
    obtain ⟨kid, rfl⟩ : ∃ kid, ks = [kid] := by
      match ks, this with
      | [a], _ => exact ⟨a, rfl⟩
    have hf := hfk 0 kid rfl
    have hp := fun (g : Bool) (L1 : List Blk) => hpk (by omega) kid (by simp) wl g (L1 :: H) (by simp; omega) (by simp)
    simp only [pshs] at hr
    simp only [frm] at hp
    simp at hf
    subst hr
    obtain ⟨u, hu⟩ : ∃ u, psh ds ss (!is) kid = u := ⟨_, rfl⟩
    have hp2 := hp (!is)
    rw [hu] at hp2 ⊢
    obtain ⟨uk, un, ug, uf, ud, ukf, uks⟩ := u
    simp only [Tm.enc] at hp2
    cases is <;> simp at hp2 <;> simp [Try.f23, hf, hp2, hH, Tm.enc]
  rw [if_neg h10] at hr
  by_cases h13 : k = 13
  · subst h13
    rw [if_pos rfl] at hr
    have : ks.length = 2 := by
      simp [many] at hm
      subst hm
      simp [manyOk] at hmo
      omega
    have hi := hif (hpk (by omega)) this is
    rw [hr] at hi
    obtain ⟨uk, un, ug, uf, ud, ukf, uks⟩ := r
    simp [Tm.enc] at hi
    simp [Try.f23, hi, hH, Tm.enc]
  rw [if_neg h13] at hr
  by_cases h12 : k = 11 ∨ k = 12
  · rw [if_pos h12] at hr
    have ha := hfa (hpk (by omega)) (by omega) is
    have o1 := fun (L1 : List Blk) => and_call (wl := wl) (rowF ks) (pshs ds ss is ks) (L1 :: H) (by simp)
    have o2 := fun (L1 : List Blk) => or_call (wl := wl) (rowF ks) (pshs ds ss is ks) (L1 :: H) (by simp)
    simp [ofT, Tm.enc] at o1 o2
    subst hr
    rcases h12 with rfl | rfl <;> cases is <;> simp at ha <;> simp [Try.f23, ha, o1, o2, hH, ofT, Tm.enc]
  rw [if_neg h12] at hr
  have c : ∀ a : Int, (k : Int) ≠ a → ((k : Int) == a) = false := fun a h => by rw [beq_eq_false_iff_ne]; exact h
  have c3 := c 3 (by omega)
  have c4 := c 4 (by omega)
  have c10 := c 10 (by omega)
  have c11 := c 11 (by omega)
  have c12 := c 12 (by omega)
  have c13 := c 13 (by omega)
  cases is with
  | true =>
    simp at hr
    subst hr
    simp [Try.f23, hH, c3, c4, c10, c11, c12, c13, Tm.enc]
  | false =>
    simp at hr
    have hd := hdn (by
      intro h
      have : many k = some (some 2) := by rcases h with rfl | rfl <;> rfl
      rw [this] at hm
      injection hm with hm
      subst hm
      simp [manyOk] at hmo
      omega)
    rw [hr] at hd
    obtain ⟨uk, un, ug, uf, ud, ukf, uks⟩ := r
    simp only [Tm.enc] at hd
    simp [Try.f23, hH, c3, c4, c10, c11, c12, c13, Tm.enc, hd]

/-- Push: what it tells. -/
def pushR (ds : List Dt) (ss : List Sc) (t : Tm) (is : Bool) : PV :=
  match sortS ds ss t with
  | .error e => if (e : Int) = 0 then .tup [(Tm.mk 0 bNil false true [] true []).enc, .int .i64 23] else .tup [(Tm.mk 0 bNil false true [] true []).enc, .int .i64 e]
  | .ok s => if s = bBool then (if 20000 < (if is = true then (fsz ds ss t).1 else (fsz ds ss t).2) then .tup [(Tm.mk 0 bNil false true [] true []).enc, .int .i64 34] else .tup [(ownT (psh ds ss is t)).enc, .int .i64 0])
    else .tup [(Tm.mk 0 bNil false true [] true []).enc, .int .i64 23]

theorem okT_of {k : Nat} {f : Bool} {ks : List Tm} (h : ks.length < 100000000000) (h2 : okTs ks) : okT (ofT k f ks) := ⟨by simp, h, h2⟩
theorem okT_one : okT oneT := ⟨by simp, by simp, trivial⟩
theorem okT_above {a b : Tm} (ha : okT a) (hb : okT b) : okT (aboveT a b) := okT_of (by simp) ⟨okT_of (by simp) ⟨ha, okT_one, trivial⟩, hb, trivial⟩
theorem okT_default : okT default := by
  show okT (.mk _ _ _ _ _ _ _)
  exact ⟨by decide, by decide, trivial⟩
theorem okT_kids {k nm ng df dg kf ks} (h : okT (.mk k nm ng df dg kf ks)) : okTs ks := h.2.2
theorem okT_den {ds : List Dt} {ss : List Sc} {t : Tm} (h : okT t) : okT (denT ds ss t) := by
  obtain ⟨k, nm, ng, df, dg, kf, ks⟩ := t
  unfold denT
  split
  · rename_i a b hks
    simp only [ks_mk] at hks
    subst hks
    have h2 := okT_kids h
    split
    · exact okT_above h2.2.1 h2.1
    split
    · exact okT_of (by simp) ⟨okT_above h2.1 h2.2.1, okT_above h2.2.1 h2.1, trivial⟩
    · exact okT_of (by simp) ⟨h, trivial⟩
  · exact okT_of (by simp) ⟨h, trivial⟩
theorem okT_iff {yes no : List Tm} {is : Bool} (hy : okTs yes) (hn : okTs no) : okT (iffT yes no is) := by
  unfold iffT
  split
  · obtain ⟨ha, hb, _⟩ := hy
    obtain ⟨hc, hd, _⟩ := hn
    split
    · exact okT_of (by simp) ⟨okT_of (by simp) ⟨hc, hb, trivial⟩, okT_of (by simp) ⟨hd, ha, trivial⟩, trivial⟩
    · exact okT_of (by simp) ⟨okT_of (by simp) ⟨ha, hb, trivial⟩, okT_of (by simp) ⟨hc, hd, trivial⟩, trivial⟩
  · exact okT_default
mutual
theorem okT_psh (ds : List Dt) (ss : List Sc) : ∀ (t : Tm) (is : Bool), okT t → okT (psh ds ss is t)
  | .mk k nm ng df dg kf ks, is, h => by
    rw [psh]
    split
    · exact okT_of (by simp) trivial
    split
    · have := okTs_psh ds ss ks (!is) h.2.2
      split
      · rename_i hp
        rw [hp] at this
        exact this.1
      · exact okT_default
    split
    · exact okT_iff (okTs_psh ds ss ks true h.2.2) (okTs_psh ds ss ks false h.2.2)
    split
    · exact okT_of (by rw [pshs_map]; simpa using h.2.1) (okTs_psh ds ss ks is h.2.2)
    split
    · exact h
    · exact okT_den h
theorem okTs_psh (ds : List Dt) (ss : List Sc) : ∀ (l : List Tm) (is : Bool), okTs l → okTs (pshs ds ss is l)
  | [], _, _ => trivial
  | t :: ts, is, h => ⟨okT_psh ds ss t is h.1, okTs_psh ds ss ts is h.2⟩
end

def nilT : Tm := .mk 0 bNil false true [] true []

theorem Push_call {wl : Nat} (t : Tm) {fd : Bool} {ds : List Dt} {fs : Bool} {ss : List Sc} (is : Bool) (H : Heap) (hb : t.bulk < 100000000000) (hds : okD ds) (hss : ss.length < 1000000000000) (hw : wl ≤ H.length) (hH : 0 < H.length) :
    E.call 9 wl [.lst fd (encD ds), .lst fs (encS ss), t.enc, .bool is] H = some (.ret (pushR ds ss t is), H) := by
  refine (E_call Try.func9 rfl rfl (by kernel_rfl) rfl _ (by exact Nat.le_of_ble_eq_true rfl) H).trans ?_
  have hs := fun L1 : List Blk => Sort_call (wl := wl) (t := t) (by omega) (fd := fd) (fs := fs) hds hss (L1 :: H) (by simp; omega) (by simp)
  have hz := fun hk (L1 : List Blk) => size_call t.bulk (wl := wl) t (fd := fd) (fs := fs) (L1 :: H) (Nat.le_refl _) hb hds hss hk (by simp; omega) (by simp)
  have hp := fun hk (L1 : List Blk) => push_call t.bulk t (fd := fd) (fs := fs) (Nat.le_refl _) hb hds hss hk wl is (L1 :: H) (by simp; omega) (by simp)
  have ho := fun (L1 : List Blk) => nown_call (wl := wl) (psh ds ss is t).size (psh ds ss is t) (L1 :: H) (Nat.le_refl _) (okT_psh ds ss t is (okT_bulk t hb)) (by simp)
  unfold pushR
  obtain ⟨u, hu⟩ : ∃ u, ownT (psh ds ss is t) = u := ⟨_, rfl⟩
  obtain ⟨q, hq⟩ : ∃ q, psh ds ss is t = q := ⟨_, rfl⟩
  rw [hu] at ho ⊢
  rw [hq] at ho hp
  obtain ⟨y, hy⟩ : ∃ y, fsz ds ss t = y := ⟨_, rfl⟩
  rw [hy] at hz ⊢
  obtain ⟨k, nm, ng, df, dg, kf, ks⟩ := t
  obtain ⟨uk, un, ug, uf, ud, ukf, uks⟩ := u
  obtain ⟨qk, qn, qg, qf, qd, qkf, qks⟩ := q
  simp only [frm, k_mk, nm_mk, ng_mk, df_mk, ds_mk, kf_mk, ks_mk] at hz hp
  simp only [Tm.enc] at ho hp hs
  cases hst : sortS ds ss (.mk k nm ng df dg kf ks) with
  | error e =>
    rw [hst] at hs
    simp only [triedS] at hs
    by_cases he : e = 0
    · simp [Try.f9, Tm.enc, hs, hH, he, encs]
    · simp [Try.f9, Tm.enc, hs, hH, he, encs]
  | ok s =>
    rw [hst] at hs
    simp only [triedS] at hs
    have hz2 := hz ⟨s, hst⟩
    have hp2 := hp ⟨s, hst⟩
    by_cases hsb : s = bBool
    · cases is with
      | true =>
        by_cases h1 : 20000 < y.1
        · have h1' : (20000 : Int) < y.1 := by omega
          simp [Try.f9, Tm.enc, hs, hsb, hz2, h1, h1', hH, encs]
        · have h1' : ¬ (20000 : Int) < y.1 := by omega
          simp [Try.f9, Tm.enc, hs, hsb, hz2, hp2, ho, h1, h1', hH, encs]
      | false =>
        by_cases h1 : 20000 < y.2
        · have h1' : (20000 : Int) < y.2 := by omega
          simp [Try.f9, Tm.enc, hs, hsb, hz2, h1, h1', hH, encs]
        · have h1' : ¬ (20000 : Int) < y.2 := by omega
          simp [Try.f9, Tm.enc, hs, hsb, hz2, hp2, ho, h1, h1', hH, encs]
    · simp [Try.f9, Tm.enc, hs, hsb, hH, encs]
end Go.GL.Seat
