/-
  Walks, mD: terms at work (package model).
  Walks, mE: functions of data, comparing (package model).
-/
import Derived.Test.YtafgloejojikoaaMGl47
import Derived.Test.YtafgloejojikoaaMGl45
import Derived.Test.YtafgloejojikoaaMGl40
set_option linter.unusedSimpArgs false
set_option linter.unusedVariables false
/-! Walks, mD: terms at work (package model). -/
namespace Go.GL.Seat
open Go.Proofs
set_option maxRecDepth 100000
set_option maxHeartbeats 8000000

/-- A term at work. -/
structure Wk where
  fd : Bool
  ds : List Dt
  k : Nat
  nm : ByteArray
  ng : Bool
  df : Bool
  dg : List Nat
  kf : Bool
  ks : List Tm
  lf : Bool
  l : List Vl
def Wk.enc (w : Wk) : PV := .agg [.lst w.fd (encD w.ds), .int .u8 w.k, .str w.nm, .bool w.ng, .lst w.df (dig w.dg), .lst w.kf (encs w.ks), .lst w.lf (encVs w.l)]

theorem enc_six (l : List Vl) : ∀ x ∈ l, ∃ cs, x.enc = .agg cs ∧ cs.length = 6 ∧ isDataL cs = true := fun x _ => enc_agg x

theorem allC_call {wl : Nat} (kk : Nat) (v : Vl) (D K : Nat) (H : Heap) (hH : 0 < H.length) (h1 : atS H D K = some (.box [.int .u8 kk])) (hD : D < H.length) :
    E.call 128 wl [v.enc, .ptr D K 0] H = some (.ret (.bool (!decide (v.k = kk))), H) := by
  refine (E_call Try.func128 rfl rfl (by kernel_rfl) rfl _ (by exact Nat.le_of_ble_eq_true rfl) H).trans ?_
  obtain ⟨k, ng, df, ds, tr, nm, ff, fs⟩ := v
  by_cases h : k = kk
  · subst h
    simp [Try.f128, Vl.enc, h1, Nat.ne_of_lt hD, hH, Vl.k]
  · have h' : ¬ (k : Int) = kk := by omega
    simp [Try.f128, Vl.enc, h1, Nat.ne_of_lt hD, hH, Vl.k, h, h']

theorem eachC_call {wl : Nat} (b : Bool) (v : Vl) (D K : Nat) (H : Heap) (hH : 0 < H.length) (h1 : atS H D K = some (.box [.bool b])) (hD : D < H.length) :
    E.call 133 wl [v.enc, .ptr D K 0] H = some (.ret (.bool (!(v.tr == b))), H) := by
  refine (E_call Try.func133 rfl rfl (by kernel_rfl) rfl _ (by exact Nat.le_of_ble_eq_true rfl) H).trans ?_
  obtain ⟨k, ng, df, ds, tr, nm, ff, fs⟩ := v
  cases tr <;> cases b <;> simp [Try.f133, Vl.enc, h1, Nat.ne_of_lt hD, hH, Vl.tr]

theorem wall_call {wl : Nat} (w : Wk) (kk : Nat) (hl : w.l.length < 1000000000000) (H : Heap) (hH : 0 < H.length) :
    E.call 94 wl [w.enc, .int .u8 kk] H = some (.ret (.bool (allV kk w.l)), H) := by
  refine (E_call Try.func94 rfl rfl (by kernel_rfl) rfl _ (by exact Nat.le_of_ble_eq_true rfl) H).trans ?_
  have hcl := fun L1 : List Blk => mval1C_call (wl := wl) 128 (D0 := H.length) (K0 := 1) Vl.enc (fun v => !decide (v.k = kk)) w.lf w.l ((.box (cellsOf w.enc) :: .box [.int .u8 kk] :: L1) :: H) (by simp) hl (enc_six _)
    (fun x _ L2 L3 => allC_call kk x H.length 1 (L3 :: L2 :: (.box (cellsOf w.enc) :: .box [.int .u8 kk] :: L1) :: H) (by simp) (by rw [atS_cons (by simp; omega), atS_cons (by simp), atS_top]; rfl) (by simp; omega))
  rw [← encVs_map] at hcl
  have he : allV kk w.l = !(w.l.any fun v => !decide (v.k = kk)) := by unfold allV; rw [List.all_eq_not_any_not]
  rw [he]
  obtain ⟨r, hr⟩ : ∃ r, (w.l.any fun v => !decide (v.k = kk)) = r := ⟨_, rfl⟩
  rw [hr] at hcl ⊢
  obtain ⟨fd, ds, k, nm, ng, df, dg, kf, ks, lf, l⟩ := w
  simp only [Wk.enc, cellsOf] at hcl ⊢
  simp [Try.f94, hcl, hH]

theorem weach_call {wl : Nat} (w : Wk) (b : Bool) (hl : w.l.length < 1000000000000) (H : Heap) (hH : 0 < H.length) :
    E.call 102 wl [w.enc, .bool b] H = some (.ret (.bool (w.l.all fun v => v.tr == b)), H) := by
  refine (E_call Try.func102 rfl rfl (by kernel_rfl) rfl _ (by exact Nat.le_of_ble_eq_true rfl) H).trans ?_
  have hcl := fun L1 : List Blk => mval1C_call (wl := wl) 133 (D0 := H.length) (K0 := 1) Vl.enc (fun v => !(v.tr == b)) w.lf w.l ((.box (cellsOf w.enc) :: .box [.bool b] :: L1) :: H) (by simp) hl (enc_six _)
    (fun x _ L2 L3 => eachC_call b x H.length 1 (L3 :: L2 :: (.box (cellsOf w.enc) :: .box [.bool b] :: L1) :: H) (by simp) (by rw [atS_cons (by simp; omega), atS_cons (by simp), atS_top]; rfl) (by simp; omega))
  rw [← encVs_map] at hcl
  have he : (w.l.all fun v => v.tr == b) = !(w.l.any fun v => !(v.tr == b)) := by rw [List.all_eq_not_any_not]
  rw [he]
  obtain ⟨r, hr⟩ : ∃ r, (w.l.any fun v => !(v.tr == b)) = r := ⟨_, rfl⟩
  rw [hr] at hcl ⊢
  obtain ⟨fd, ds, k, nm, ng, df, dg, kf, ks, lf, l⟩ := w
  simp only [Wk.enc, cellsOf] at hcl ⊢
  simp [Try.f102, hcl, hH]

theorem wall1_call {wl : Nat} (w : Wk) (hl : w.l.length < 1000000000000) (H : Heap) (hH : 0 < H.length) : E.call 94 wl [w.enc, .int .u8 1] H = some (.ret (.bool (allV 1 w.l)), H) := wall_call w 1 hl H hH
theorem wall2_call {wl : Nat} (w : Wk) (hl : w.l.length < 1000000000000) (H : Heap) (hH : 0 < H.length) : E.call 94 wl [w.enc, .int .u8 2] H = some (.ret (.bool (allV 2 w.l)), H) := wall_call w 2 hl H hH
theorem wall3_call {wl : Nat} (w : Wk) (hl : w.l.length < 1000000000000) (H : Heap) (hH : 0 < H.length) : E.call 94 wl [w.enc, .int .u8 3] H = some (.ret (.bool (allV 3 w.l)), H) := wall_call w 3 hl H hH
theorem truthV_enc (b : Bool) : (truthV b).enc = .agg [.int .u8 2, .bool false, .lst true [], .bool b, .str bNil, .lst true []] := rfl

def numVl (v : Vl) : Nm := ⟨v.ng, v.df, v.ds⟩
theorem numVl_val (v : Vl) : (numVl v).val = v.val := rfl
theorem okV_num {M : Nat} (hM : M < 40000000) {v : Vl} (h : okV M v) : (numVl v).ok := by
  obtain ⟨k, ng, df, ds, tr, nm, ff, fs⟩ := v
  exact ⟨Nat.lt_of_le_of_lt h.1 hM, h.2.1⟩
def encN (l : List Vl) : List PV := (l.map numVl).map Nm.enc
@[simp] theorem encN_length (l : List Vl) : (encN l).length = l.length := by simp [encN]

theorem numV_enc (z : Int) : (numV z).enc = .agg [.int .u8 1, .bool (decide (z < 0)), .lst (rowF (digsOf z.natAbs)) (dig (digsOf z.natAbs)), .bool false, .str bNil, .lst true []] := by
  simp [numV, Vl.enc, encVs, rowF]

theorem mnum_call {wl : Nat} (z : Int) (H : Heap) (hH : 0 < H.length) : E.call 89 wl [encI z] H = some (.ret (numV z).enc, H) := number_call _ _ _ H hH

theorem yes_call {wl : Nat} (w : Wk) (H : Heap) (hH : 0 < H.length) : E.call 41 wl [w.enc] H = some (.ret (.tup [(truthV true).enc, .bool true]), H) := by
  refine (E_call Try.func41 rfl rfl (by kernel_rfl) rfl _ (by exact Nat.le_of_ble_eq_true rfl) H).trans ?_
  have ht := fun (w2 : Nat) (b : Bool) (L1 : List Blk) => mtruth_call (wl := w2) b (L1 :: H) (by simp)
  obtain ⟨fd, ds, k, nm, ng, df, dg, kf, ks, lf, l⟩ := w
  simp only [Wk.enc, truthV_enc] at ht ⊢
  simp [Try.f41, ht, hH]
theorem no_call {wl : Nat} (w : Wk) (H : Heap) (hH : 0 < H.length) : E.call 42 wl [w.enc] H = some (.ret (.tup [(truthV false).enc, .bool true]), H) := by
  refine (E_call Try.func42 rfl rfl (by kernel_rfl) rfl _ (by exact Nat.le_of_ble_eq_true rfl) H).trans ?_
  have ht := fun (w2 : Nat) (b : Bool) (L1 : List Blk) => mtruth_call (wl := w2) b (L1 :: H) (by simp)
  obtain ⟨fd, ds, k, nm, ng, df, dg, kf, ks, lf, l⟩ := w
  simp only [Wk.enc, truthV_enc] at ht ⊢
  simp [Try.f42, ht, hH]

theorem and_call {wl : Nat} (w : Wk) (hl : w.l.length < 1000000000000) (H : Heap) (hH : 0 < H.length) : E.call 50 wl [w.enc] H = some (.ret (.tup [(truthV (w.l.all fun v => v.tr == true)).enc, .bool (allV 2 w.l)]), H) := by
  refine (E_call Try.func50 rfl rfl (by kernel_rfl) rfl _ (by exact Nat.le_of_ble_eq_true rfl) H).trans ?_
  have ht := fun (w2 : Nat) (b : Bool) (L1 : List Blk) => mtruth_call (wl := w2) b (L1 :: H) (by simp)
  have ha := fun (w2 : Nat) (L1 : List Blk) => wall2_call (wl := w2) w hl (L1 :: H) (by simp)
  have hb := fun (w2 : Nat) (b : Bool) (L1 : List Blk) => weach_call (wl := w2) w b hl (L1 :: H) (by simp)
  obtain ⟨a, ha2⟩ : ∃ a, allV 2 w.l = a := ⟨_, rfl⟩
  obtain ⟨b, hb2⟩ : ∃ b, (w.l.all fun v => v.tr == true) = b := ⟨_, rfl⟩
  have hb := fun (w2 : Nat) (L1 : List Blk) => hb w2 true L1
  rw [ha2] at ha
  rw [hb2] at hb
  rw [ha2, hb2]
  obtain ⟨fd, ds, k, nm, ng, df, dg, kf, ks, lf, l⟩ := w
  simp only [Wk.enc, truthV_enc] at ht ha hb ⊢
  simp [Try.f50, ht, ha, hb, hH]
theorem or_call {wl : Nat} (w : Wk) (hl : w.l.length < 1000000000000) (H : Heap) (hH : 0 < H.length) : E.call 51 wl [w.enc] H = some (.ret (.tup [(truthV (!(w.l.all fun v => v.tr == false))).enc, .bool (allV 2 w.l)]), H) := by
  refine (E_call Try.func51 rfl rfl (by kernel_rfl) rfl _ (by exact Nat.le_of_ble_eq_true rfl) H).trans ?_
  have ht := fun (w2 : Nat) (b : Bool) (L1 : List Blk) => mtruth_call (wl := w2) b (L1 :: H) (by simp)
  have ha := fun (w2 : Nat) (L1 : List Blk) => wall2_call (wl := w2) w hl (L1 :: H) (by simp)
  have hb := fun (w2 : Nat) (L1 : List Blk) => weach_call (wl := w2) w false hl (L1 :: H) (by simp)
  obtain ⟨a, ha2⟩ : ∃ a, allV 2 w.l = a := ⟨_, rfl⟩
  obtain ⟨b, hb2⟩ : ∃ b, (w.l.all fun v => v.tr == false) = b := ⟨_, rfl⟩
  rw [ha2] at ha
  rw [hb2] at hb
  rw [ha2, hb2]
  obtain ⟨fd, ds, k, nm, ng, df, dg, kf, ks, lf, l⟩ := w
  simp only [Wk.enc, truthV_enc] at ht ha hb ⊢
  simp [Try.f51, ht, ha, hb, hH]

theorem literal_call {wl : Nat} (w : Wk) (hb : w.dg.length < 40000000) (hd : ∀ d ∈ w.dg, d ≤ 4294967295) (H : Heap) (hH : 0 < H.length) : E.call 40 wl [w.enc] H = some (.ret (.tup [(numV (valI w.ng w.dg)).enc, .bool (rightN w.ng w.dg)]), H) := by
  refine (E_call Try.func40 rfl rfl (by kernel_rfl) rfl _ (by exact Nat.le_of_ble_eq_true rfl) H).trans ?_
  have hbl : lenN (absSum [⟨w.ng, w.df, w.dg⟩]) < 50000000 := by
    have := digs_valD w.dg hd
    have h2 : absSum [⟨w.ng, w.df, w.dg⟩] = valD w.dg := by simp [absSum, Nm.val, valI_abs]
    rw [h2]; unfold lenN; omega
  have hc := fun (w2 : Nat) (f : Bool) (L1 : List Blk) => Add_call (wl := w2) f [⟨w.ng, w.df, w.dg⟩] (by simp) (by simp only [List.mem_singleton, forall_eq]; exact ⟨hb, hd⟩) hbl (L1 :: H) (by simp)
  have hn := fun (w2 : Nat) (L1 : List Blk) => mnum_call (wl := w2) (valI w.ng w.dg) (L1 :: H) (by simp)
  have hr := fun (w2 : Nat) (L1 : List Blk) => numRight_call (wl := w2) w.ng w.df w.dg (L1 :: H) (by simp) (by omega)
  have e1 : accN (· + ·) 0 [⟨w.ng, w.df, w.dg⟩] = valI w.ng w.dg := by simp [accN, Nm.val]
  rw [e1] at hc
  obtain ⟨z, hz⟩ : ∃ z, valI w.ng w.dg = z := ⟨_, rfl⟩
  obtain ⟨q, hq⟩ : ∃ q, rightN w.ng w.dg = q := ⟨_, rfl⟩
  rw [hz] at hc hn
  rw [hq] at hr
  rw [hz, hq]
  obtain ⟨fd, ds, k, nm, ng, df, dg, kf, ks, lf, l⟩ := w
  rw [numV_enc] at hn ⊢
  simp only [encI, List.map_cons, List.map_nil, Nm.enc, Wk.enc] at hc hn hr ⊢
  simp [Try.f40, hc, hn, hr, hH]

theorem leaveKp_own (f : FuncId) (hk : keep f = true) (s : St) (k n sz : Nat) (L : List Blk) (H : Heap) (xs : List PV) (hs : s.H = L :: H) (h : s.L[k]? = some (.arr true sz xs)) (hn : xs.length = n) :
    leaveKp f s (.own (H.length + 1) k n sz) = some (.ret (.own H.length L.length n sz), (L ++ [.arr true sz xs]) :: H) := by
  unfold leaveKp leave
  rw [hk, hs]
  simp [St.depth, hs, h, hn]
theorem leaveKp_lst (f : FuncId) (hk : keep f = true) (s : St) (L : List Blk) (H : Heap) (hs : s.H = L :: H) :
    leaveKp f s (.lst true []) = some (.ret (.lst true []), L :: H) := by
  unfold leaveKp leave
  rw [hk, hs]
  simp [St.depth, hs, frz, within, St.stack]

def RowN (d : Nat) (st : St) (v : PV) (l : List Vl) : Prop := (l = [] ∧ v = .lst true []) ∨ (l ≠ [] ∧ ∃ kk, v = .own d kk l.length 2 ∧ st.L[kk]? = some (.arr true 2 (encN l)))

theorem numbers_call {wl : Nat} (w : Wk) (hl : w.l.length < 1000000000) (L0 : List Blk) (H : Heap) :
    E.call 93 wl [w.enc] (L0 :: H) = if w.l = [] then some (.ret (.lst true []), L0 :: H) else some (.ret (.own H.length L0.length w.l.length 2), (L0 ++ [.arr true 2 (encN w.l)]) :: H) := by
  refine (E_call Try.func93 rfl rfl (by kernel_rfl) rfl _ (by exact Nat.le_of_ble_eq_true rfl) (L0 :: H)).trans ?_
  obtain ⟨fd, ds, k, nm, ng, df, dg, kf, ks, lf, l⟩ := w
  simp only [Wk.enc] at hl ⊢
  simp [Try.f93]
  generalize hz : run tab E wl (Code.loop _) _ = z
  obtain ⟨x, s', rfl, hx⟩ := loop_up (fun c s => E_loop) hz l.length (fun i st => RowN (H.length + 1) st (st.env 3) (l.take i) ∧ st.env 7 = .lst lf (encVs l) ∧ st.env 8 = .int .i64 l.length ∧ st.env 9 = .int .i64 i ∧ st.H = L0 :: H)
    (fun x st => x = .exit 0 ∧ RowN (H.length + 1) st (st.env 3) l ∧ st.H = L0 :: H)
    ⟨.inl ⟨by simp, by simp⟩, by simp, by simp, by simp, by simp⟩ (by
      rintro i ⟨e, L, H'⟩ hi ⟨hrow, h7, h8, h9, hHH⟩
      simp only [] at h7 h8 h9 hHH
      subst hHH
      obtain ⟨t, ht⟩ : ∃ t, l[i]? = some t := ⟨_, List.getElem?_eq_getElem hi⟩
      have hw2 := i64w (n := (i : Int) + 1) (by omega) (by omega)
      have hil : i < l.length := hi
      have htk : l.take (i + 1) = l.take i ++ [t] := by rw [List.take_add_one, ht]; rfl
      obtain ⟨tk, tg, tf, td, ttr, tn, tkf, tks⟩ := t
      rcases hrow with ⟨hnil, h3⟩ | ⟨hne, kk, h3, hkk⟩
      · simp at h3
        have hi0 : i = 0 := by
          have := congrArg List.length hnil
          simp at this
          rcases this with h | h
          · exact h
          · rw [h] at hil; simp at hil
        subst hi0
        simp [-getElem?_pos, h3, h7, h8, h9, ht, Vl.enc, hi, lim]
        refine .inr ⟨by simp [htk], L.length + 2, by simp [htk], ?_⟩
        simp [htk, encN, numVl, Nm.enc, Vl.ng, Vl.df, Vl.ds]
      · simp at h3 hkk
        have hkl := (List.getElem?_eq_some_iff.1 hkk).1
        have hmin : min i l.length = i := by omega
        rw [hmin] at h3
        have hlm : (i + 1) * 32 ≤ lim := by unfold lim; omega
        simp [-getElem?_pos, h3, h7, h8, h9, ht, Vl.enc, hi, hw2, app_old hkk, hlm, hmin]
        refine .inr ⟨by simp [htk], kk, by simp; omega, ?_⟩
        simp only []
        rw [List.getElem?_set_self (by simp; omega), htk]
        simp [encN, numVl, Nm.enc, Vl.ng, Vl.df, Vl.ds]) (by
      rintro ⟨e, L, H'⟩ ⟨hrow, h7, h8, h9, hHH⟩
      simp only [] at h7 h8 h9 hHH
      rw [List.take_length] at hrow
      simp [h7, h8, h9, hHH]
      exact hrow)
  obtain ⟨rfl, hrow, hHH⟩ := hx
  rcases hrow with ⟨rfl, h3⟩ | ⟨hne, kk, h3, hkk⟩
  · simp [h3, hHH]
    exact leaveKp_lst _ rfl _ _ _ rfl
  · simp [h3, hHH, hne]
    exact leaveKp_own _ rfl _ _ _ _ _ _ _ rfl hkk (by simp)

theorem accN_sumV (l : List Vl) : accN (· + ·) 0 (l.map numVl) = sumV l := by
  have key : ∀ (l : List Vl) (a : Int), (l.map numVl).foldl (fun a x => a + x.val) a = a + sumV l := by
    intro l
    induction l with
    | nil => intro a; simp [sumV]
    | cons v l ih =>
      intro a
      simp only [List.map_cons, List.foldl_cons, ih, sumV, List.sum_cons, numVl_val]
      omega
  have := key l 0
  simpa [accN] using this

theorem sum_call {wl : Nat} (M : Nat) (hM : M < 40000000) (w : Wk) (hl : w.l.length < 1000000000) (hok : ∀ v ∈ w.l, okV M v) (hb : lenN (absSum (w.l.map numVl)) < 50000000) (H : Heap) (hH : 0 < H.length) :
    E.call 43 wl [w.enc] H = some (.ret (.tup [(numV (sumV w.l)).enc, .bool (allV 1 w.l)]), H) := by
  refine (E_call Try.func43 rfl rfl (by kernel_rfl) rfl _ (by exact Nat.le_of_ble_eq_true rfl) H).trans ?_
  have ha := fun (w2 : Nat) (L1 : List Blk) => wall1_call (wl := w2) w (by omega) (L1 :: H) (by simp)
  have hN := fun (w2 : Nat) (L1 : List Blk) => numbers_call (wl := w2) w hl L1 H
  have hc := fun (w2 : Nat) (f : Bool) (L1 : List Blk) => Add_call (wl := w2) f (w.l.map numVl) (by rw [List.length_map]; omega) (by
    intro x hx
    obtain ⟨v, hv, rfl⟩ := List.mem_map.1 hx
    exact okV_num hM (hok v hv)) hb (L1 :: H) (by simp)
  have hn := fun (w2 : Nat) (L1 : List Blk) => mnum_call (wl := w2) (sumV w.l) (L1 :: H) (by simp)
  rw [accN_sumV] at hc
  have he : (w.l.map numVl).map Nm.enc = encN w.l := rfl
  rw [he] at hc
  obtain ⟨z, hz⟩ : ∃ z, sumV w.l = z := ⟨_, rfl⟩
  obtain ⟨q, hq⟩ : ∃ q, allV 1 w.l = q := ⟨_, rfl⟩
  rw [hz] at hc hn
  rw [hq] at ha
  rw [hz, hq]
  obtain ⟨fd, ds, k, nm, ng, df, dg, kf, ks, lf, l⟩ := w
  rw [numV_enc] at hn ⊢
  simp only [encI, Wk.enc] at hc hn ha hN ⊢
  by_cases hnil : l = []
  · subst hnil
    simp only [if_true, encN, List.map_nil] at hN hc
    simp [Try.f43, hc, hn, ha, hN, hH]
  · simp only [if_neg hnil] at hN
    simp [Try.f43, hc, hn, ha, hN, hH, hnil, keptK, keptR]

theorem product_call {wl : Nat} (M : Nat) (hM : M < 10000000) (w : Wk) (v : Vl) (hl : w.l = [v]) (hok : okV M v) (hdg : w.dg.length < 10000000) (hd : ∀ d ∈ w.dg, d ≤ 4294967295) (H : Heap) (hH : 0 < H.length) :
    E.call 44 wl [w.enc] H = some (.ret (.tup [(numV (sumV w.l * valI w.ng w.dg)).enc, .bool (allV 1 w.l && rightN w.ng w.dg)]), H) := by
  refine (E_call Try.func44 rfl rfl (by kernel_rfl) rfl _ (by exact Nat.le_of_ble_eq_true rfl) H).trans ?_
  have ha := fun (w2 : Nat) (L1 : List Blk) => wall1_call (wl := w2) w (by rw [hl]; simp) (L1 :: H) (by simp)
  have hN := fun (w2 : Nat) (L1 : List Blk) => numbers_call (wl := w2) w (by rw [hl]; simp) L1 H
  have hvok := okV_num (Nat.lt_trans hM (by decide)) hok
  have hvl : (numVl v).ds.length ≤ M := by
    obtain ⟨k, ng, df, ds, tr, nm, ff, fs⟩ := v
    exact hok.1
  have hc := fun (w2 : Nat) (f : Bool) (L1 : List Blk) => Mul2_call (wl := w2) f (numVl v) ⟨w.ng, w.df, w.dg⟩ hvok ⟨by simp only []; omega, hd⟩ (by
      have := digs_valD (numVl v).ds hvok.2
      unfold lenN
      rw [show (numVl v).val.natAbs = valD (numVl v).ds from valI_abs _ _]
      omega) (by
      have := digs_valD w.dg hd
      unfold lenN
      rw [show (Nm.mk w.ng w.df w.dg).val.natAbs = valD w.dg from valI_abs _ _]
      omega) (L1 :: H) (by simp)
  have hn := fun (w2 : Nat) (L1 : List Blk) => mnum_call (wl := w2) (sumV w.l * valI w.ng w.dg) (L1 :: H) (by simp)
  have hr := fun (w2 : Nat) (L1 : List Blk) => numRight_call (wl := w2) w.ng w.df w.dg (L1 :: H) (by simp) (by omega)
  have he : (numVl v).val * (Nm.mk w.ng w.df w.dg).val = sumV w.l * valI w.ng w.dg := by
    rw [hl]
    simp only [sumV, List.map_cons, List.map_nil, List.sum_cons, List.sum_nil, Int.add_zero, numVl_val]
    rfl
  rw [he] at hc
  obtain ⟨z, hz⟩ : ∃ z, sumV w.l * valI w.ng w.dg = z := ⟨_, rfl⟩
  obtain ⟨q, hq⟩ : ∃ q, allV 1 w.l = q := ⟨_, rfl⟩
  obtain ⟨q2, hq2⟩ : ∃ q, rightN w.ng w.dg = q := ⟨_, rfl⟩
  rw [hz] at hc hn
  rw [hq] at ha
  rw [hq2] at hr
  rw [hz, hq, hq2]
  simp only [hl, List.cons_ne_nil, if_false, reduceCtorEq] at hN
  obtain ⟨fd, ds, k, nm, ng, df, dg, kf, ks, lf, l⟩ := w
  simp only [] at hl
  subst hl
  rw [numV_enc] at hn ⊢
  simp only [encI, Wk.enc, Nm.enc] at hc hn ha hN hr ⊢
  simp only [encN, List.map_cons, List.map_nil, Nm.enc, List.length_cons, List.length_nil, Nat.zero_add] at hN
  have hlm : 2 * 32 ≤ lim := by unfold lim; omega
  cases q with
  | true => simp [Try.f44, hc, hn, ha, hN, hr, hH, hlm, keptK, keptR]
  | false => simp [Try.f44, hc, hn, ha, hN, hr, hH, hlm, keptK, keptR]
end Go.GL.Seat

/-! Walks, mE: functions of data, comparing (package model). -/
namespace Go.GL.Seat
open Go.Proofs
set_option maxRecDepth 100000
set_option maxHeartbeats 8000000

theorem digsN_eq (n : Nat) : digsN n = digsOf n := by
  unfold digsN
  rw [normD_eq]
  show digsOf (valD (digsOf n)) = _
  rw [valD_digsOf]
theorem intOf_enc (n : Int) : intOf n = encI n := by
  unfold intOf encI
  rw [digsN_eq]
  have : (decide (n < 0) && !decide (digsOf n.natAbs = [])) = decide (n < 0) := by
    by_cases h : n < 0
    · have : digsOf n.natAbs ≠ [] := fun h2 => by
        have := digsOf_nil.1 h2
        omega
      simp [h, this]
    · simp [h]
  rw [this]
theorem numOf_call {wl : Nat} (n : Int) (hn : -1000000000000 < n ∧ n < 1000000000000) (H : Heap) (hH : 0 < H.length) : E.call 19 wl [.int .i64 n] H = some (.ret (encI n), H) := by
  rw [← intOf_enc]
  exact Of_call n (by omega) H hH (by
    rw [digsN_eq]
    intro d hd
    have := digsOf_lt _ d hd
    have h9 : B9 = 1000000000 := rfl
    omega) (by
    rw [digsN_eq]
    have : (digsOf n.natAbs).length ≤ 2 := digs_le (by
      rw [show B9 ^ 2 = 1000000000000000000 by decide]; omega)
    omega)

theorem sameV_swap_len (a b : Vl) : True := trivial

theorem equal_call {wl : Nat} (M : Nat) (hM : M < 1000000000) (w : Wk) (a b : Vl) (hl : w.l = [a, b]) (ha : okV M a) (H : Heap) (hH : 0 < H.length) :
    E.call 46 wl [w.enc] H = some (.ret (.tup [(truthV (sameV a b)).enc, .bool (allV 1 w.l || allV 3 w.l)]), H) := by
  refine (E_call Try.func46 rfl rfl (by kernel_rfl) rfl _ (by exact Nat.le_of_ble_eq_true rfl) H).trans ?_
  have h1 := fun (w2 : Nat) (L1 : List Blk) => wall1_call (wl := w2) w (by rw [hl]; simp) (L1 :: H) (by simp)
  have h3 := fun (w2 : Nat) (L1 : List Blk) => wall3_call (wl := w2) w (by rw [hl]; simp) (L1 :: H) (by simp)
  have hs := fun (w2 : Nat) (L1 : List Blk) => Same_call M hM a.size a (Nat.le_refl _) ha w2 b (L1 :: H) (by simp)
  have ht := fun (w2 : Nat) (b : Bool) (L1 : List Blk) => mtruth_call (wl := w2) b (L1 :: H) (by simp)
  obtain ⟨q1, hq1⟩ : ∃ q, allV 1 w.l = q := ⟨_, rfl⟩
  obtain ⟨q3, hq3⟩ : ∃ q, allV 3 w.l = q := ⟨_, rfl⟩
  obtain ⟨q, hq⟩ : ∃ q, sameV a b = q := ⟨_, rfl⟩
  rw [hq1] at h1
  rw [hq3] at h3
  rw [hq] at hs
  rw [hq1, hq3, hq]
  obtain ⟨fd, ds, k, nm, ng, df, dg, kf, ks, lf, l⟩ := w
  simp only [] at hl
  subst hl
  obtain ⟨ak, ag, af, ad, atr, an, akf, aks⟩ := a
  obtain ⟨bk, bg, bf, bd, btr, bn, bkf, bks⟩ := b
  simp only [Wk.enc, truthV_enc, encVs, Vl.enc] at h1 h3 hs ht ⊢
  cases q1 <;> simp [Try.f46, h1, h3, hs, ht, hH]

theorem most_call {wl : Nat} (M : Nat) (hM : M < 40000000) (w : Wk) (a b : Vl) (hl : w.l = [a, b]) (ha : okV M a) (hb : okV M b) (H : Heap) (hH : 0 < H.length) :
    E.call 47 wl [w.enc] H = some (.ret (.tup [(truthV (decide (a.val ≤ b.val))).enc, .bool (allV 1 w.l)]), H) := by
  refine (E_call Try.func47 rfl rfl (by kernel_rfl) rfl _ (by exact Nat.le_of_ble_eq_true rfl) H).trans ?_
  have h1 := fun (w2 : Nat) (L1 : List Blk) => wall1_call (wl := w2) w (by rw [hl]; simp) (L1 :: H) (by simp)
  have hc := fun (w2 : Nat) (L1 : List Blk) => Cmp_call (wl := w2) (numVl a) (numVl b) (okV_num hM ha) (okV_num hM hb) (L1 :: H) (by simp)
  have ht := fun (w2 : Nat) (b : Bool) (L1 : List Blk) => mtruth_call (wl := w2) b (L1 :: H) (by simp)
  obtain ⟨q1, hq1⟩ : ∃ q, allV 1 w.l = q := ⟨_, rfl⟩
  have hcmp : (cmp3 (numVl a).val (numVl b).val ≤ 0 ↔ a.val ≤ b.val) := by
    rw [numVl_val, numVl_val]
    unfold cmp3
    split
    · constructor <;> intro <;> omega
    · split
      · constructor <;> intro <;> omega
      · constructor <;> intro <;> omega
  obtain ⟨z, hz⟩ : ∃ z, cmp3 (numVl a).val (numVl b).val = z := ⟨_, rfl⟩
  have hd : decide (a.val ≤ b.val) = decide (z ≤ 0) := by rw [← hz]; exact decide_eq_decide.2 hcmp.symm
  rw [hz] at hc
  rw [hq1] at h1
  rw [hq1, hd]
  obtain ⟨fd, ds, k, nm, ng, df, dg, kf, ks, lf, l⟩ := w
  simp only [] at hl
  subst hl
  obtain ⟨ak, ag, af, ad, atr, an, akf, aks⟩ := a
  obtain ⟨bk, bg, bf, bd, btr, bn, bkf, bks⟩ := b
  simp only [Wk.enc, truthV_enc, encVs, Vl.enc, Nm.enc, numVl, Vl.ng, Vl.df, Vl.ds] at h1 hc ht ⊢
  simp [Try.f47, h1, hc, ht, hH]

theorem denied_call {wl : Nat} (w : Wk) (a : Vl) (hl : w.l = [a]) (H : Heap) (hH : 0 < H.length) :
    E.call 48 wl [w.enc] H = some (.ret (.tup [(truthV (!a.tr)).enc, .bool (allV 2 w.l)]), H) := by
  refine (E_call Try.func48 rfl rfl (by kernel_rfl) rfl _ (by exact Nat.le_of_ble_eq_true rfl) H).trans ?_
  have h1 := fun (w2 : Nat) (L1 : List Blk) => wall2_call (wl := w2) w (by rw [hl]; simp) (L1 :: H) (by simp)
  have ht := fun (w2 : Nat) (b : Bool) (L1 : List Blk) => mtruth_call (wl := w2) b (L1 :: H) (by simp)
  obtain ⟨q1, hq1⟩ : ∃ q, allV 2 w.l = q := ⟨_, rfl⟩
  rw [hq1] at h1
  rw [hq1]
  obtain ⟨fd, ds, k, nm, ng, df, dg, kf, ks, lf, l⟩ := w
  simp only [] at hl
  subst hl
  obtain ⟨ak, ag, af, ad, atr, an, akf, aks⟩ := a
  simp only [Wk.enc, truthV_enc, encVs, Vl.enc, Vl.tr] at h1 ht ⊢
  simp [Try.f48, h1, ht, hH]

theorem iff_call {wl : Nat} (w : Wk) (a b : Vl) (hl : w.l = [a, b]) (H : Heap) (hH : 0 < H.length) :
    E.call 49 wl [w.enc] H = some (.ret (.tup [(truthV (a.tr == b.tr)).enc, .bool (allV 2 w.l)]), H) := by
  refine (E_call Try.func49 rfl rfl (by kernel_rfl) rfl _ (by exact Nat.le_of_ble_eq_true rfl) H).trans ?_
  have h1 := fun (w2 : Nat) (L1 : List Blk) => wall2_call (wl := w2) w (by rw [hl]; simp) (L1 :: H) (by simp)
  have ht := fun (w2 : Nat) (b : Bool) (L1 : List Blk) => mtruth_call (wl := w2) b (L1 :: H) (by simp)
  obtain ⟨q1, hq1⟩ : ∃ q, allV 2 w.l = q := ⟨_, rfl⟩
  rw [hq1] at h1
  rw [hq1]
  obtain ⟨fd, ds, k, nm, ng, df, dg, kf, ks, lf, l⟩ := w
  simp only [] at hl
  subst hl
  obtain ⟨ak, ag, af, ad, atr, an, akf, aks⟩ := a
  obtain ⟨bk, bg, bf, bd, btr, bn, bkf, bks⟩ := b
  simp only [Wk.enc, truthV_enc, encVs, Vl.enc, Vl.tr] at h1 ht ⊢
  cases atr <;> cases btr <;> simp [Try.f49, h1, ht, hH]

def sgI (z : Int) : Bool := decide (z < 0)
def rfI (z : Int) : Bool := rowF (digsOf z.natAbs)
def dgI (z : Int) : List PV := dig (digsOf z.natAbs)
theorem encI_sg (z : Int) : encI z = .agg [.bool (sgI z), .lst (rfI z) (dgI z)] := rfl
theorem numV_sg (z : Int) : (numV z).enc = .agg [.int .u8 1, .bool (sgI z), .lst (rfI z) (dgI z), .bool false, .str bNil, .lst true []] := numV_enc z

theorem allV_one (k : Nat) (v : Vl) : allV k [v] = decide (v.k = k) := by simp [allV]

theorem zero0_enc : (zeroVl 0).enc = .agg [.int .u8 0, .bool false, .lst true [], .bool false, .str bNil, .lst true []] := rfl
theorem zero1_enc : (zeroVl 1).enc = .agg [.int .u8 1, .bool false, .lst true [], .bool false, .str bNil, .lst true []] := rfl
theorem zero2_enc : (zeroVl 2).enc = .agg [.int .u8 2, .bool false, .lst true [], .bool false, .str bNil, .lst true []] := rfl
theorem zero3_enc : (zeroVl 3).enc = .agg [.int .u8 3, .bool false, .lst true [], .bool false, .str bNil, .lst true []] := rfl

theorem applied_call {wl : Nat} (w : Wk) (v : Vl) (hl : w.l = [v]) (hds : okD w.ds) (hnm : w.nm.size < 1000000000000) (hf : v.k = 3 → formed w.ds v) (H : Heap) (hH : 0 < H.length) :
    E.call 45 wl [w.enc] H = some (.ret (.tup [(applyR w.ds w.nm v).1.enc, .bool (applyR w.ds w.nm v).2]), H) := by
  refine (E_call Try.func45 rfl rfl (by kernel_rfl) rfl _ (by exact Nat.le_of_ble_eq_true rfl) H).trans ?_
  have h3 := fun (w2 : Nat) (L1 : List Blk) => wall3_call (wl := w2) w (by rw [hl]; simp) (L1 :: H) (by simp)
  have hcon := fun (w2 : Nat) (L1 : List Blk) => con_call (wl := w2) w.fd w.ds v.nm hds (L1 :: H) (by simp)
  have hO := fun (w2 : Nat) (n : Int) (hn : -1000000000000 < n ∧ n < 1000000000000) (L1 : List Blk) => numOf_call (wl := w2) n hn (L1 :: H) (by simp)
  have hnn := fun (w2 : Nat) (z : Int) (L1 : List Blk) => mnum_call (wl := w2) z (L1 :: H) (by simp)
  have hnot := fun (w2 : Nat) (L1 : List Blk) => nothing_call (wl := w2) (L1 :: H) (by simp)
  have hzs := fun (w2 : Nat) (s : ByteArray) (L1 : List Blk) => zero_s_call (wl := w2) s (L1 :: H) (by simp)
  have hfld := fun (w2 : Nat) (L1 : List Blk) => field_call (wl := w2) w.fd w.ds w.nm hds hnm (L1 :: H) (by simp)
  rw [hl, allV_one] at h3
  obtain ⟨fd, ds, k, nm, ng, df, dg, kf, ks, lf, l⟩ := w
  simp only [] at hl
  subst hl
  simp only [] at hf hds hnm hcon hfld ⊢
  obtain ⟨p, hp⟩ : ∃ p, applyR ds nm v = p := ⟨_, rfl⟩
  rw [hp]
  unfold applyR at hp
  have hw6 : v.enc = .agg [.int .u8 v.k, .bool v.ng, .lst v.df (dig v.ds), .bool v.tr, .str v.nm, .lst v.ff (encVs v.fs)] := by
    obtain ⟨vk, vg, vf, vd, vtr, vn, vkf, vks⟩ := v
    rfl
  obtain ⟨d0, c0, o0, hc0, hc1, hc2⟩ : ∃ d0 c0 o0, conR (conAt ds v.nm 0) = [placeP d0 c0, .bool o0] ∧ (o0 = true → conAt ds v.nm 0 = some (d0, c0)) ∧ (o0 = false → conAt ds v.nm 0 = none) := by
    cases h : conAt ds v.nm 0 with
    | none => exact ⟨0, 0, false, rfl, (by simp), (by simp)⟩
    | some x => exact ⟨x.1, x.2, true, rfl, (by simp), (by simp)⟩
  rw [hc0] at hcon
  simp only [Wk.enc, encVs, hw6, placeP] at h3 hcon ⊢
  by_cases hk : v.k = 3
  case neg =>
    rw [if_pos hk] at hp
    subst hp
    have hk' : decide (v.k = 3) = false := by simpa using hk
    rw [hk'] at h3
    simp only [hw6]
    simp [Try.f45, h3, hcon, hH]
  rw [if_neg (by simpa using hk)] at hp
  have hk' : decide (v.k = 3) = true := by simpa using hk
  rw [hk'] at h3
  have hfm := hf hk
  by_cases htag : nm = bTag
  · rw [if_pos htag] at hp
    subst htag
    by_cases hvn : v.nm = bNil
    · rw [if_pos hvn] at hp
      subst hp
      have h1 := fun w2 => hO w2 (-1) (by omega)
      have h2 := fun w2 => hnn w2 (-1)
      rw [numV_sg] at h2
      simp only [numV_sg]
      simp only [encI_sg] at h1 h2
      rw [hvn] at hcon h3 ⊢
      simp [Try.f45, h3, hcon, h1, h2, hH]
    · rw [if_neg hvn] at hp
      obtain ⟨d1, c1, D, C, g1, g2, g3, g4, _⟩ := hfm hvn
      have ho : o0 = true := by
        cases o0 with
        | true => rfl
        | false => rw [hc2 rfl] at g1; cases g1
      subst ho
      rw [hc1 rfl] at hp g1
      simp only [Option.some.injEq, Prod.mk.injEq] at hp g1
      obtain ⟨rfl, rfl⟩ := g1
      subst hp
      have hcb : c0 < 1000000000000 := Nat.lt_trans (List.getElem?_eq_some_iff.1 g3).1 (hds.2 D (List.mem_of_getElem? g2)).1
      have h1 := fun w2 => hO w2 (c0 : Int) (by omega)
      have h2 := fun w2 => hnn w2 (c0 : Int)
      rw [numV_sg] at h2
      simp only [numV_sg]
      simp only [encI_sg] at h1 h2
      simp [Try.f45, h3, hcon, h1, h2, hH, hvn]
  rw [if_neg htag] at hp
  cases hfs : fieldS ds nm with
  | none =>
    rw [hfs] at hp
    simp only [] at hp
    subst hp
    have hfld2 : ∀ (w2 : Nat) (L1 : List Blk), ∃ t : Nat × Nat × Nat, E.call 97 w2 [.lst fd (encD ds), .str nm] (L1 :: H) = some (.ret (.tup [.agg [.int .i64 t.1, .int .i64 t.2.1], .int .i64 t.2.2, .bool false]), L1 :: H) := by
      intro w2 L1
      obtain ⟨u, hu, d, c, i, rfl, _⟩ := hfld w2 L1
      rw [hfs] at hu
      exact ⟨(d, c, i), hu⟩
    have ht := fun w2 => Classical.skolem.1 (hfld2 w2)
    obtain ⟨t, ht⟩ := Classical.skolem.1 ht
    simp only [hw6]
    simp [Try.f45, h3, hcon, hH, htag, ht]
  | some x =>
    obtain ⟨d, c, i⟩ := x
    rw [hfs] at hp
    simp only [] at hp
    obtain ⟨D, C, s, hD, hC, hs⟩ := fieldS_some hfs
    have ht : ∀ (w2 : Nat) (L1 : List Blk), E.call 97 w2 [.lst fd (encD ds), .str nm] (L1 :: H) = some (.ret (.tup [.agg [.int .i64 d, .int .i64 c], .int .i64 i, .bool true]), L1 :: H) := by
      intro w2 L1
      obtain ⟨u, hu, d', c', i', rfl, h5⟩ := hfld w2 L1
      rw [hfs] at hu h5
      have := h5 _ rfl
      simp only [Prod.mk.injEq] at this
      obtain ⟨rfl, rfl, rfl⟩ := this
      exact hu
    have hfl := fun (w2 : Nat) (L1 : List Blk) => fields_call (wl := w2) (fd := fd) hD hC (L1 :: H) (by simp)
    simp only [placeP] at hfl
    simp only [hD, Option.bind_some, hC, hs] at hp
    have hdlt := (List.getElem?_eq_some_iff.1 hD).1
    have hilt := (List.getElem?_eq_some_iff.1 hs).1
    have hzero : p = (zeroS s, true) → ∀ (on : ByteArray), True := fun _ _ => trivial
    by_cases hvn : v.nm = bNil
    · rw [if_neg (by simp [hvn]), if_neg (by simp [hvn])] at hp
      subst hp
      rw [hvn] at hcon h3 ⊢
      by_cases s1 : s = bInt
      · subst s1
        have hz := fun w2 => hzs w2 bInt
        simp only [if_true, zero0_enc, zero1_enc, zero2_enc, zero3_enc] at hz
        simp [-getElem?_pos, Try.f45, h3, hcon, hH, htag, ht, hfl, hs, hilt, hz, zeroS, zero0_enc, zero1_enc, zero2_enc, zero3_enc]
      · by_cases s2 : s = bBool
        · subst s2
          have hz := fun w2 => hzs w2 bBool
          simp only [s1, if_true, if_false, zero0_enc, zero1_enc, zero2_enc, zero3_enc] at hz
          simp [-getElem?_pos, Try.f45, h3, hcon, hH, htag, ht, hfl, hs, hilt, hz, zeroS, s1, zero0_enc, zero1_enc, zero2_enc, zero3_enc]
        · have hz := fun w2 => hzs w2 s
          simp only [s1, s2, if_false, zero0_enc, zero1_enc, zero2_enc, zero3_enc] at hz
          simp only [zero0_enc, zero1_enc, zero2_enc, zero3_enc] at hnot
          simp [-getElem?_pos, Try.f45, h3, hcon, hH, htag, ht, hfl, hs, hilt, hz, hnot, zeroS, s1, s2, zero0_enc, zero1_enc, zero2_enc, zero3_enc]
    · obtain ⟨d1, c1, D1, C1, g1, g2, g3, g4, _⟩ := hfm hvn
      have ho : o0 = true := by
        cases o0 with
        | true => rfl
        | false => rw [hc2 rfl] at g1; cases g1
      subst ho
      rw [hc1 rfl] at hp g1
      simp only [Option.some.injEq, Prod.mk.injEq] at g1
      obtain ⟨rfl, rfl⟩ := g1
      have hd0 := (List.getElem?_eq_some_iff.1 g2).1
      have e1 : dataNm ds d0 = D1.nm := by simp [dataNm, g2]
      have e2 : dataNm ds d = D.nm := by simp [dataNm, hD]
      simp only [Option.getD_some, e1, e2] at hp
      have hDe : D.enc = .agg [.str D.nm, .lst D.cf (encC D.cs)] := by obtain ⟨a, b, c⟩ := D; rfl
      have hDe1 : D1.enc = .agg [.str D1.nm, .lst D1.cf (encC D1.cs)] := by obtain ⟨a, b, c⟩ := D1; rfl
      by_cases hdn : D1.nm = D.nm
      case neg =>
        rw [if_pos ⟨hvn, hdn⟩] at hp
        subst hp
        simp only [hw6]
        simp [-getElem?_pos, Try.f45, h3, hcon, hH, htag, ht, hvn, g2, hD, hDe, hDe1, hd0, hdlt, hdn]
      rw [if_neg (by simp [hdn])] at hp
      by_cases hpl : (d0, c0) = (d, c)
      · rw [if_pos ⟨hvn, hpl⟩] at hp
        simp only [Prod.mk.injEq] at hpl
        obtain ⟨rfl, rfl⟩ := hpl
        rw [hD] at g2
        injection g2 with g2
        subst g2
        rw [hC] at g3
        injection g3 with g3
        subst g3
        obtain ⟨u, hu⟩ : ∃ u, v.fs[i]? = some u := ⟨_, List.getElem?_eq_getElem (by omega)⟩
        have hil := (List.getElem?_eq_some_iff.1 hu).1
        rw [hu] at hp
        simp only [Option.getD_some] at hp
        subst hp
        have hu6 : u.enc = .agg [.int .u8 u.k, .bool u.ng, .lst u.df (dig u.ds), .bool u.tr, .str u.nm, .lst u.ff (encVs u.fs)] := by
          obtain ⟨vk, vg, vf, vd, vtr, vn, vkf, vks⟩ := u
          rfl
        simp only [hu6]
        simp [-getElem?_pos, Try.f45, h3, hcon, hH, htag, ht, hvn, hD, hDe, hdlt, hu, hu6, hil]
      · rw [if_neg (by simp [hpl])] at hp
        subst hp
        have hpl2 : d0 = d → c0 ≠ c := fun h1 h2 => hpl (by rw [h1, h2])
        have hpl3 : (bif (d0 : Int) == d then bif (c0 : Int) == c then some true else some false else some false) = some false := by
          by_cases h1 : d0 = d
          · have h2 := hpl2 h1
            have : ((c0 : Int) == c) = false := by rw [beq_eq_false_iff_ne]; omega
            rw [this]; cases ((d0 : Int) == d) <;> rfl
          · have : ((d0 : Int) == d) = false := by rw [beq_eq_false_iff_ne]; omega
            rw [this]; rfl
        have hpl4 : (d0 : Int) = d → ¬ (c0 : Int) = c := fun h1 => by
          have := hpl2 (by omega)
          omega
        by_cases s1 : s = bInt
        · subst s1
          have hz := fun w2 => hzs w2 bInt
          simp only [if_true, zero0_enc, zero1_enc, zero2_enc, zero3_enc] at hz
          simp [-getElem?_pos, Try.f45, h3, hcon, hH, htag, ht, hfl, hs, hilt, hz, zeroS, zero0_enc, zero1_enc, zero2_enc, zero3_enc, hvn, g2, hD, hDe, hDe1, hd0, hdlt, hdn, hpl3, hpl4]
        · by_cases s2 : s = bBool
          · subst s2
            have hz := fun w2 => hzs w2 bBool
            simp only [s1, if_true, if_false, zero0_enc, zero1_enc, zero2_enc, zero3_enc] at hz
            simp [-getElem?_pos, Try.f45, h3, hcon, hH, htag, ht, hfl, hs, hilt, hz, zeroS, s1, zero0_enc, zero1_enc, zero2_enc, zero3_enc, hvn, g2, hD, hDe, hDe1, hd0, hdlt, hdn, hpl3, hpl4]
          · have hz := fun w2 => hzs w2 s
            simp only [s1, s2, if_false, zero0_enc, zero1_enc, zero2_enc, zero3_enc] at hz
            simp only [zero0_enc, zero1_enc, zero2_enc, zero3_enc] at hnot
            simp [-getElem?_pos, Try.f45, h3, hcon, hH, htag, ht, hfl, hs, hilt, hz, hnot, zeroS, s1, s2, zero0_enc, zero1_enc, zero2_enc, zero3_enc, hvn, g2, hD, hDe, hDe1, hd0, hdlt, hdn, hpl3, hpl4]
end Go.GL.Seat
