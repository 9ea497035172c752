/-
  Walks, mB: is a value of a sort? copies; sameness (package model).
  Walks, mC: copies, sameness of values (package model).
-/
import Derived.Test.YtafgloejojikoaaMGmA
import Derived.Test.YtafgloejojikoaaMGl42
import Derived.Test.YtafgloejojikoaaMGl43
set_option linter.unusedSimpArgs false
set_option linter.unusedVariables false
/-! Walks, mB: is a value of a sort? copies; sameness (package model). -/
namespace Go.GL.Seat
open Go.Proofs
set_option maxRecDepth 100000
set_option maxHeartbeats 8000000

theorem enc_agg (v : Vl) : ∃ cs, v.enc = .agg cs ∧ cs.length = 6 ∧ isDataL cs = true := by cases v; exact ⟨_, rfl, rfl, rfl⟩

def OfC (M : Nat) (v : Vl) : Prop := ∀ (wl : Nat) (fd : Bool) (ds : List Dt) (s : ByteArray) (H : Heap), okD ds → 0 < H.length → E.call 86 wl [.lst fd (encD ds), .str s, v.enc] H = some (.ret (.bool (isV ds s v)), H)

theorem of_model_call (n M : Nat) (hM : M < 1000000000) : ∀ v : Vl, v.size ≤ n → okV M v → OfC M v := by
  induction n using Nat.strongRecOn with
  | _ n ih =>
  intro v hn hok wl fd ds s H hds hH
  refine (E_call Try.func86 rfl rfl (by kernel_rfl) rfl _ (by exact Nat.le_of_ble_eq_true rfl) H).trans ?_
  have hnone := fun (L1 : List Blk) => mnone_call (wl := wl) v (L1 :: H) (by simp)
  have hdl := hds.1
  obtain ⟨k, ng, df, dg, tr, nm, ff, fs⟩ := v
  simp only [Vl.size] at hn
  obtain ⟨ok1, ok2, ok3, ok4⟩ := hok
  have hrt := fun (L1 : List Blk) => numRight_call (wl := wl) ng df dg (L1 :: H) (by simp) (by omega)
  have hcon := fun (L1 : List Blk) => con_call (wl := wl) fd ds nm hds (L1 :: H) (by simp)
  have hdat := fun (L1 : List Blk) => mdata_call (wl := wl) fd ds s hdl (L1 :: H) (by simp)
  obtain ⟨r, hr⟩ : ∃ r, isV ds s (.mk k ng df dg tr nm ff fs) = r := ⟨_, rfl⟩
  rw [hr]
  rw [isV] at hr
  obtain ⟨nv, hnv⟩ : ∃ nv, noneV (.mk k ng df dg tr nm ff fs) = nv := ⟨_, rfl⟩
  rw [hnv] at hnone hr
  simp only [Vl.enc] at hnone ⊢
  obtain ⟨kk, hkk⟩ : ∃ kk : Int, (k : Int) = kk := ⟨_, rfl⟩
  rw [hkk] at hnone ⊢
  cases nv with
  | false =>
    simp at hr
    subst hr
    simp [Try.f86, hnone, hH]
  | true =>
  simp only [Bool.true_eq_false, if_false] at hr
  by_cases k1 : k = 1
  · subst k1
    have hk1 : kk = 1 := by omega
    subst hk1
    simp only [if_true] at hr
    subst hr
    by_cases hs : s = bInt
    · simp [Try.f86, hnone, hrt, hs, hH]
    · simp [Try.f86, hnone, hs, hH]
  rw [if_neg k1] at hr
  have c1 : ¬ kk = 1 := by omega
  by_cases k2 : k = 2
  · subst k2
    have hk2 : kk = 2 := by omega
    subst hk2
    simp only [if_true] at hr
    subst hr
    by_cases hs : s = bBool
    · simp [Try.f86, hnone, hs, hH]
    · simp [Try.f86, hnone, hs, hH]
  rw [if_neg k2] at hr
  have c2 : ¬ kk = 2 := by omega
  by_cases k3 : k = 3
  case neg =>
    rw [if_neg k3] at hr
    subst hr
    have c3 : ¬ kk = 3 := by omega
    simp [Try.f86, hnone, c1, c2, c3, hH]
  subst k3
  have hk3 : kk = 3 := by omega
  subst hk3
  simp only [if_true] at hr
  obtain ⟨q, hq⟩ : ∃ q, isD ds s = q := ⟨_, rfl⟩
  rw [hq] at hdat hr
  obtain ⟨cc, hcc⟩ : ∃ cc, conAt ds nm 0 = cc := ⟨_, rfl⟩
  rw [hcc] at hcon
  have hcon2 : ∃ d c o, (∀ L1 : List Blk, E.call 96 wl [.lst fd (encD ds), .str nm] (L1 :: H) = some (.ret (.tup [.agg [.int .i64 (d : Nat), .int .i64 (c : Nat)], .bool o]), L1 :: H)) ∧ (o = true → cc = some (d, c)) ∧ (o = false → cc = none) := by
    cases cc with
    | none => exact ⟨0, 0, false, fun L1 => by have := hcon L1; simpa [conR, placeP] using this, by simp, by simp⟩
    | some x => exact ⟨x.1, x.2, true, fun L1 => by have := hcon L1; simpa [conR, placeP] using this, by simp, by simp⟩
  obtain ⟨d, c, o, hcon3, ho1, ho2⟩ := hcon2
  cases q with
  | false =>
    simp at hr
    subst hr
    simp [Try.f86, hnone, hcon3, hdat, hH]
  | true =>
  simp only [Bool.true_eq_false, if_false] at hr
  by_cases hnm : nm = bNil
  · rw [if_pos hnm] at hr
    subst hnm
    by_cases hfs : fs = []
    · subst hfs
      simp only [encVs] at hnone
      simp at hr
      subst hr
      simp [Try.f86, hnone, hcon3, hdat, hH, encVs]
    · have hf : ((fs.length : Int) == 0) = false := by rw [beq_eq_false_iff_ne]; have := List.length_pos_iff.2 hfs; omega
      have hf2 : decide (fs.length = 0) = false := by have := List.length_pos_iff.2 hfs; simp; exact hfs
      rw [hf2] at hr
      subst hr
      simp [Try.f86, hnone, hcon3, hdat, hf, hH]
      try exact hfs
  rw [if_neg hnm] at hr
  cases o with
  | false =>
    have hfc := conAt_none ds nm 0 (hcc.trans (ho2 rfl))
    rw [hfc] at hr
    simp only [] at hr
    subst hr
    simp [Try.f86, hnone, hcon3, hdat, hnm, hH]
  | true =>
  obtain ⟨D, C, _, hD, hC, _, hfc⟩ := conAt_get ds nm 0 d c (hcc.trans (ho1 rfl))
  rw [Nat.sub_zero] at hD
  rw [hfc] at hr
  simp only [] at hr
  have hfl := fun (w2 : Nat) (L1 : List Blk) => fields_call (wl := w2) (fd := fd) hD hC (L1 :: H) (by simp)
  simp only [placeP] at hfl
  have hdlt := (List.getElem?_eq_some_iff.1 hD).1
  by_cases hsn : D.nm = s
  case neg =>
    have : (D.nm ≠ s) := hsn
    rw [if_pos this] at hr
    subst hr
    obtain ⟨dn, dcf, dcs⟩ := D
    simp only [] at hsn
    simp [-getElem?_pos, Try.f86, hnone, hcon3, hdat, hnm, hH, hD, hdlt, Dt.enc, hsn]
  rw [if_neg (by simpa using hsn)] at hr
  by_cases hlen : C.fs.length = fs.length
  case neg =>
    rw [if_pos (by simpa using hlen)] at hr
    subst hr
    have hlen2 : ¬ (C.fs.length : Int) = fs.length := by omega
    obtain ⟨dn, dcf, dcs⟩ := D
    simp only [] at hsn hC
    simp [-getElem?_pos, Try.f86, hnone, hcon3, hdat, hnm, hH, hD, hdlt, Dt.enc, hsn, hfl, hlen, hlen2]
  rw [if_neg (by simpa using hlen)] at hr
  obtain ⟨dn, dcf, dcs⟩ := D
  simp only [] at hsn hC
  have hlen2 : (C.fs.length : Int) = fs.length := by omega
  simp [-getElem?_pos, Try.f86, hnone, hcon3, hdat, hnm, hH, hD, hdlt, Dt.enc, hsn, hfl, hlen2]
  generalize hz : run tab E wl (Code.loop _) _ = z
  obtain ⟨x, s', rfl, hx, hH'⟩ := loop_up (fun c s => E_loop) hz fs.length (fun i st => st.env 0 = .lst fd (encD ds) ∧ st.env 5 = .ptr H.length 0 0 ∧ st.env 72 = .lst C.ff (encF C.fs) ∧ st.env 73 = .int .i64 fs.length ∧ st.env 74 = .int .i64 i ∧ st.H = H ∧ st.L[0]? = some (.box [.int .u8 3, .bool ng, .lst df (dig dg), .bool tr, .str nm, .lst ff (encVs fs)]) ∧ ∀ j s v, j < i → C.fs[j]? = some s → fs[j]? = some v → isV ds s v = true)
    (fun x st => ((x = .exit 2 ∧ r = true) ∨ (x = .ret ∧ r = false ∧ st.env 6 = .bool false)) ∧ st.H = H)
    (by simp [hlen]) (by
      rintro i ⟨e, L, H'⟩ hi ⟨h0, h5, h72, h73, h74, hHH, hL0, hj⟩
      simp only [] at h0 h5 h72 h73 h74 hHH hL0
      subst hHH
      obtain ⟨t, ht⟩ : ∃ t, fs[i]? = some t := ⟨_, List.getElem?_eq_getElem hi⟩
      obtain ⟨u, hu⟩ : ∃ u, C.fs[i]? = some u := ⟨_, List.getElem?_eq_getElem (by omega)⟩
      have hw2 := i64w (n := (i : Int) + 1) (by omega) (by omega)
      have htm := sizeVs_mem (List.mem_of_getElem? ht)
      have hc := fun (L1 : List Blk) => ih t.size (by omega) t (Nat.le_refl _) (okVs_mem ok4 (List.mem_of_getElem? ht)) wl fd ds u (L1 :: H') hds (by simp)
      have hiff := isVs_iff (ds := ds) hlen
      obtain ⟨b, hb⟩ : ∃ b, isV ds u t = b := ⟨_, rfl⟩
      rw [hb] at hc
      have hiC : i < C.fs.length := by omega
      obtain ⟨tk, tng, tdf, tdg, ttr, tnm, tff, tfs⟩ := t
      simp only [Vl.enc] at hc
      cases b with
      | true =>
        simp [-getElem?_pos, h0, h5, h72, h73, h74, ht, hu, hi, hw2, hL0, hiC, Vl.enc, hc]
        intro j s v hji hs hv
        rcases Nat.lt_or_ge j i with h | h
        · exact hj j s v h hs hv
        · have : j = i := by omega
          subst this; rw [ht] at hv; rw [hu] at hs; injection hs with hs; injection hv with hv; rw [← hs, ← hv]; exact hb
      | false =>
        have : r = false := by
          rw [← hr]
          cases h : isVs ds C.fs fs with
          | false => rfl
          | true =>
            have := hiff.1 h i _ _ hu ht
            rw [hb] at this
            cases this
        simp [-getElem?_pos, h0, h5, h72, h73, h74, ht, hu, hi, hw2, hL0, hiC, Vl.enc, hc, this]) (by
      rintro ⟨e, L, H'⟩ ⟨h0, h5, h72, h73, h74, hHH, hL0, hj⟩
      simp only [] at h0 h5 h72 h73 h74 hHH hL0
      have : r = true := by rw [← hr, isVs_iff hlen]; exact fun i s v hs hv => hj i s v (List.getElem?_eq_some_iff.1 hv).1 hs hv
      simp [-getElem?_pos, h0, h5, h72, h73, h74, hHH, this])
  rcases hx with ⟨rfl, rfl⟩ | ⟨rfl, rfl, h6⟩
  · simp [hH', hH]
  · simp [hH', hH, h6]

theorem someC_call (M : Nat) (hM : M < 1000000000) {wl : Nat} (d : Dt) (fd : Bool) (ds : List Dt) (v : Vl) (hv : okV M v) (hds : okD ds) (D K1 K2 : Nat) (H : Heap) (hH : 0 < H.length) (h1 : atS H D K1 = some (.box [.lst fd (encD ds)])) (h2 : atS H D K2 = some (.box (cellsOf v.enc))) (hD : D < H.length) :
    E.call 88 wl [d.enc, .ptr D K1 0, .ptr D K2 0] H = some (.ret (.bool (isV ds d.nm v)), H) := by
  refine (E_call Try.func88 rfl rfl (by kernel_rfl) rfl _ (by exact Nat.le_of_ble_eq_true rfl) H).trans ?_
  have hc := fun (L1 : List Blk) => of_model_call v.size M hM v (Nat.le_refl _) hv wl fd ds d.nm (L1 :: H) hds (by simp)
  obtain ⟨r, hr⟩ : ∃ r, isV ds d.nm v = r := ⟨_, rfl⟩
  rw [hr] at hc ⊢
  obtain ⟨k, ng, df, dg, tr, nm, ff, fs⟩ := v
  simp only [Vl.enc, cellsOf] at h2 hc
  simp [Try.f88, Dt.enc, h1, h2, Nat.ne_of_lt hD, hH, hc]

theorem some_call (M : Nat) (hM : M < 1000000000) {wl : Nat} (fd : Bool) (ds : List Dt) (v : Vl) (hv : okV M v) (hds : okD ds) (H : Heap) (hH : 0 < H.length) :
    E.call 38 wl [.lst fd (encD ds), v.enc] H = some (.ret (.bool (someV ds v)), H) := by
  refine (E_call Try.func38 rfl rfl (by kernel_rfl) rfl _ (by exact Nat.le_of_ble_eq_true rfl) H).trans ?_
  have hc := fun (s : ByteArray) (L1 : List Blk) => of_model_call v.size M hM v (Nat.le_refl _) hv wl fd ds s (L1 :: H) hds (by simp)
  have hcl := fun L1 : List Blk => mdat2C_call (wl := wl) 88 (D0 := H.length) (K0 := 0) (D1 := H.length) (K1 := 1) Dt.enc (fun d => isV ds d.nm v) fd ds ((.box [.lst fd (encD ds)] :: .box (cellsOf v.enc) :: L1) :: H) (by simp) hds.1 (fun x _ => ⟨_, rfl, rfl, rfl⟩)
    (fun x _ L2 L3 => someC_call M hM x fd ds v hv hds H.length 0 1 (L3 :: L2 :: (.box [.lst fd (encD ds)] :: .box (cellsOf v.enc) :: L1) :: H) (by simp) (by rw [atS_cons (by simp; omega), atS_cons (by simp), atS_top]; rfl) (by rw [atS_cons (by simp; omega), atS_cons (by simp), atS_top]; rfl) (by simp; omega))
  have he : ds.map Dt.enc = encD ds := rfl
  rw [he] at hcl
  unfold someV
  have h1 := hc bInt
  have h2 := hc bBool
  obtain ⟨r1, hr1⟩ : ∃ r, isV ds bInt v = r := ⟨_, rfl⟩
  obtain ⟨r2, hr2⟩ : ∃ r, isV ds bBool v = r := ⟨_, rfl⟩
  obtain ⟨r3, hr3⟩ : ∃ r, (ds.any fun d => isV ds d.nm v) = r := ⟨_, rfl⟩
  rw [hr1] at h1 ⊢
  rw [hr2] at h2 ⊢
  rw [hr3] at hcl ⊢
  obtain ⟨k, ng, df, dg, tr, nm, ff, fs⟩ := v
  simp only [Vl.enc, cellsOf] at h1 h2 hcl ⊢
  cases r1 with
  | true => simp [Try.f38, h1, hH]
  | false =>
    cases r2 with
    | true => simp [Try.f38, h1, h2, hH]
    | false => simp [Try.f38, h1, h2, hcl, hH]
end Go.GL.Seat

/-! Walks, mC: copies, sameness of values (package model). -/
namespace Go.GL.Seat
open Go.Proofs
set_option maxRecDepth 100000
set_option maxHeartbeats 8000000

def RowV (d : Nat) (st : St) (v : PV) (l : List Vl) : Prop := (l = [] ∧ v = .lst true []) ∨ (l ≠ [] ∧ ∃ kk, v = .own d kk l.length 6 ∧ st.L[kk]? = some (.arr true 6 (encVs l)))

theorem copied_call (M : Nat) (hM : M < 1000000000) {wl : Nat} (n : Nat) : ∀ (t : Vl) (H : Heap), t.size ≤ n → okV M t → 0 < H.length → E.call 39 wl [t.enc] H = some (.ret (copV t).enc, H) := by
  induction n using Nat.strongRecOn with
  | _ n ih =>
  intro t H hn hok hH
  refine (E_call Try.func39 rfl rfl (by kernel_rfl) rfl _ (by exact Nat.le_of_ble_eq_true rfl) H).trans ?_
  obtain ⟨k, ng, df, dg, tr, nm, kf, ks⟩ := t
  simp only [Vl.size] at hn
  obtain ⟨hok1, _, hkl, hok2⟩ := hok
  have hc := fun (L1 : List Blk) => clone_call (wl := wl) df dg (L1 :: H) (by simp) (by omega)
  obtain ⟨r, hr⟩ : ∃ r, (copV (.mk k ng df dg tr nm kf ks)).enc = r := ⟨_, rfl⟩
  rw [hr]
  simp only [copV, copVs_map] at hr
  obtain ⟨os, hos⟩ : ∃ os, ks.map copV = os := ⟨_, rfl⟩
  have hol : os.length = ks.length := by rw [← hos]; simp
  rw [hos] at hr
  simp [Try.f39, Vl.enc, hc]
  generalize hz : run tab E wl (Code.loop _) _ = z
  obtain ⟨x, s', rfl, hx⟩ := loop_up (fun c s => E_loop) hz ks.length (fun i st => ∃ b2, st.env 1 = .ptr H.length 0 0 ∧ st.env 2 = .ptr H.length 1 0 ∧ RowV H.length st (st.env 3) (os.take i) ∧ st.env 13 = .lst kf (encVs ks) ∧ st.env 14 = .int .i64 ks.length ∧ st.env 15 = .int .i64 i ∧ st.H = H ∧ st.L[0]? = some (.box [.int .u8 k, .bool ng, .lst (rowF dg) (dig dg), .bool tr, .str nm, .lst kf (encVs ks)]) ∧ st.L[1]? = some (.box b2) ∧ b2.length = 6)
    (fun x st => ∃ b2, x = .exit 0 ∧ st.env 1 = .ptr H.length 0 0 ∧ st.env 2 = .ptr H.length 1 0 ∧ RowV H.length st (st.env 3) os ∧ st.H = H ∧ st.L[0]? = some (.box [.int .u8 k, .bool ng, .lst (rowF dg) (dig dg), .bool tr, .str nm, .lst kf (encVs ks)]) ∧ st.L[1]? = some (.box b2) ∧ b2.length = 6)
    ⟨_, by simp, by simp, .inl ⟨by simp, by simp⟩, by simp, by simp, by simp, by simp, by simp, by simp; rfl, rfl⟩ (by
      rintro i ⟨e, L, H'⟩ hi ⟨b2, h1, h2, hrow, h13, h14, h15, hHH, hL0, hL1, hb2⟩
      simp only [] at h1 h2 h13 h14 h15 hHH hL0 hL1
      subst hHH
      obtain ⟨t, ht⟩ : ∃ t, ks[i]? = some t := ⟨_, List.getElem?_eq_getElem hi⟩
      have htb := sizeVs_mem (List.mem_of_getElem? ht)
      have hto := okVs_mem hok2 (List.mem_of_getElem? ht)
      have hc2 := fun (L1 : List Blk) => ih t.size (by omega) t (L1 :: H') (Nat.le_refl _) hto (by simp)
      have hw2 := i64w (n := (i : Int) + 1) (by omega) (by omega)
      have hil : i < ks.length := hi
      have hou : os[i]? = some (copV t) := by rw [← hos, List.getElem?_map, ht]; rfl
      have htk : os.take (i + 1) = os.take i ++ [copV t] := by rw [List.take_add_one, hou]; rfl
      obtain ⟨tk, tg, tf, td, ttr, tn, tkf, tks⟩ := t
      simp only [Vl.enc] at hc2
      obtain ⟨u, hu⟩ : ∃ u, copV (.mk tk tg tf td ttr tn tkf tks) = u := ⟨_, rfl⟩
      rw [hu] at hc2 htk
      obtain ⟨uk, ug, uf, ud, utr, un, ukf, uks⟩ := u
      simp only [Vl.enc] at hc2
      rcases hrow with ⟨hnil, h3⟩ | ⟨hne, kk, h3, hkk⟩
      · simp at h3
        have hi0 : i = 0 := by
          have := congrArg List.length hnil
          simp at this
          rcases this with h | h
          · exact h
          · rw [h] at hol; simp at hol; omega
        subst hi0
        simp [-getElem?_pos, h1, h2, h3, h13, h14, h15, ht, Vl.enc, hi, hc2, lim, hw2]
        refine ⟨.inr ⟨by simp [htk], L.length + 2, by simp [htk], ?_⟩, app_old hL0, b2, app_old hL1, hb2⟩
        simp [htk, encVs, Vl.enc]
      · simp at h3 hkk
        have hkl := (List.getElem?_eq_some_iff.1 hkk).1
        have hk0 : kk ≠ 0 := by
          rintro rfl
          rw [hkk] at hL0
          cases hL0
        have hk1 : kk ≠ 1 := by
          rintro rfl
          rw [hkk] at hL1
          cases hL1
        have hmin : min i os.length = i := by omega
        rw [hmin] at h3
        have hlm : (i + 1) * 88 ≤ lim := by unfold lim; omega
        simp [-getElem?_pos, h1, h2, h3, h13, h14, h15, ht, Vl.enc, hi, hc2, hw2, app_old hkk, hlm, hmin]
        refine ⟨.inr ⟨by simp [htk], kk, by simp; omega, ?_⟩, by rw [List.getElem?_set_ne hk0]; exact app_old hL0, b2, by rw [List.getElem?_set_ne hk1]; exact app_old hL1, hb2⟩
        simp only []
        rw [List.getElem?_set_self (by simp; omega), htk]
        simp [encVs_map, Vl.enc]) (by
      rintro ⟨e, L, H'⟩ ⟨b2, h1, h2, hrow, h13, h14, h15, hHH, hL0, hL1, hb2⟩
      simp only [] at h1 h2 h13 h14 h15 hHH hL0 hL1
      rw [← hol, List.take_length] at hrow
      simp [h1, h2, h13, h14, h15, hHH]
      exact ⟨hrow, hL0, b2, hL1, hb2⟩)
  obtain ⟨b2, rfl, h1, h2, hrow, hHH, hL0, hL1, hb2⟩ := hx
  obtain ⟨a0, a1, a2, a3, a4, a5, rfl⟩ : ∃ a0 a1 a2 a3 a4 a5, b2 = [a0, a1, a2, a3, a4, a5] := by
    match b2, hb2 with
    | [a0, a1, a2, a3, a4, a5], _ => exact ⟨a0, a1, a2, a3, a4, a5, rfl⟩
  have h0s : ∀ b, (s'.L.set 0 b)[0]? = some b := fun b => List.getElem?_set_self (List.getElem?_eq_some_iff.1 hL0).1
  have h1s : ∀ b, (s'.L.set 0 b)[1]? = some (.box [a0, a1, a2, a3, a4, a5]) := fun b => by rw [List.getElem?_set_ne (by omega)]; exact hL1
  have h1t : ∀ b c, ((s'.L.set 0 b).set 1 c)[1]? = some c := fun b c => List.getElem?_set_self (by simpa using (List.getElem?_eq_some_iff.1 hL1).1)
  rcases hrow with ⟨hnil, h3⟩ | ⟨hne, kk, h3, hkk⟩
  · have hks : ks = [] := List.eq_nil_of_length_eq_zero (by rw [← hol, hnil]; rfl)
    subst hks hnil
    simp [-getElem?_pos, h1, h2, h3, hHH, hL0, hL1, h0s, h1s, h1t, hH, ← hr, Vl.enc, rowF, encVs]
    done
  · have hks : ks ≠ [] := by rintro rfl; exact hne (List.eq_nil_of_length_eq_zero hol)
    have hk0 : kk ≠ 0 := by
      rintro rfl
      rw [hkk] at hL0
      cases hL0
    have hk1 : kk ≠ 1 := by
      rintro rfl
      rw [hkk] at hL1
      cases hL1
    have hks2 : ∀ b c, ((s'.L.set 0 b).set 1 c)[kk]? = s'.L[kk]? := fun b c => by rw [List.getElem?_set_ne (fun h => hk1 h.symm), List.getElem?_set_ne (fun h => hk0 h.symm)]
    simp [-getElem?_pos, h1, h2, h3, hHH, hL0, hL1, h0s, h1s, h1t, hH, ← hr, Vl.enc, rowF, hks, hkk, hks2]
    done

theorem eqU32_call {wl : Nat} (f g : Bool) (a b : List Nat) (H : Heap) (hH : 0 < H.length) (hb : a.length < 1000000000000) :
    E.call 81 wl [.lst f (dig a), .lst g (dig b)] H = some (.ret (.bool (decide (a = b))), H) := by
  refine (E_call Try.func81 rfl rfl (by kernel_rfl) rfl _ (by exact Nat.le_of_ble_eq_true rfl) H).trans ?_
  by_cases hl : a.length = b.length
  case neg =>
    have hne : a ≠ b := fun h => hl (by rw [h])
    have hl2 : ¬ ((a.length : Int) = b.length) := by omega
    simp [Try.f81, hl2, hl, hne, hH]
  obtain ⟨r, hr⟩ : ∃ r, decide (a = b) = r := ⟨_, rfl⟩
  rw [hr]
  have hl2 : (a.length : Int) = b.length := by omega
  simp [Try.f81, hl2]
  generalize hz : run tab E wl (Code.loop _) _ = z
  obtain ⟨x, s', rfl, hx, hH'⟩ := loop_up (fun c s => E_loop) hz b.length (fun i st => st.env 0 = .lst f (dig a) ∧ st.env 1 = .lst g (dig b) ∧ st.env 12 = .int .i64 b.length ∧ st.env 13 = .int .i64 i ∧ st.H = H ∧ ∀ j x y, j < i → a[j]? = some x → b[j]? = some y → x = y)
    (fun x st => ((x = .exit 0 ∧ r = true) ∨ (x = .ret ∧ r = false ∧ st.env 4 = .bool false)) ∧ st.H = H) (by simp [hl2]) (by
      rintro i ⟨e, L, H'⟩ hi ⟨h0, h1, h12, h13, hHH, hj⟩
      have hi2 : i < b.length := hi
      obtain ⟨t, ht⟩ : ∃ t, a[i]? = some t := ⟨_, List.getElem?_eq_getElem (by omega)⟩
      obtain ⟨u, hu⟩ : ∃ u, b[i]? = some u := ⟨_, List.getElem?_eq_getElem (by omega)⟩
      simp only [] at h0 h1 h12 h13 hHH
      subst hHH
      have hia : i < a.length := by omega
      have hw2 := i64w (n := (i : Int) + 1) (by omega) (by omega)
      by_cases hts : t = u
      · subst hts
        simp [-getElem?_pos, h0, h1, h12, h13, ht, hu, hi, hia, hw2]
        intro j x y hji hx hy
        rcases Nat.lt_or_ge j i with h | h
        · exact hj j x y h hx hy
        · have : j = i := by omega
          subst this; rw [ht] at hx; rw [hu] at hy; injection hx with hx; injection hy with hy; rw [← hx, hy]
      · have hts2 : ¬ (t : Int) = u := by omega
        simp [-getElem?_pos, h0, h1, h12, h13, ht, hu, hi, hia, hw2, hts2, ← hr]
        rintro rfl
        rw [ht] at hu
        injection hu with hu
        exact hts hu) (by
      rintro ⟨e, L, H'⟩ ⟨h0, h1, h12, h13, hHH, hj⟩
      simp only [] at h0 h1 h12 h13 hHH
      simp [h0, h1, h12, h13, hHH, ← hr]
      rw [list_eq_iff hl]
      intro i x y hx hy
      exact hj i x y (List.getElem?_eq_some_iff.1 hy).1 hx hy)
  rcases hx with ⟨rfl, hx⟩ | ⟨rfl, hx, h4⟩
  · simp [hH', hH, hx]
  · simp [hH', hx, h4, hH]

def SameVC (a : Vl) : Prop := ∀ (wl : Nat) (b : Vl) (H : Heap), 0 < H.length → E.call 33 wl [a.enc, b.enc] H = some (.ret (.bool (sameV a b)), H)

theorem eqFuncV_call {wl : Nat} (f g : Bool) (a b : List Vl) (ha : ∀ t ∈ a, SameVC t) (H : Heap) (hH : 0 < H.length) (hb : a.length < 1000000000000) :
    E.call 82 wl [.lst f (encVs a), .lst g (encVs b), .func (.func 33) [] []] H = some (.ret (.bool (sameVs a b)), H) := by
  refine (E_call Try.func82 rfl rfl (by kernel_rfl) rfl _ (by exact Nat.le_of_ble_eq_true rfl) H).trans ?_
  by_cases hl : a.length = b.length
  case neg =>
    have hne : sameVs a b = false := by
      cases h : sameVs a b with
      | false => rfl
      | true => exact absurd (sameVs_length h) hl
    have hl2 : ¬ ((a.length : Int) = b.length) := by omega
    simp [Try.f82, hl2, hl, hne, hH]
  obtain ⟨r, hr⟩ : ∃ r, sameVs a b = r := ⟨_, rfl⟩
  rw [hr]
  have hl2 : (a.length : Int) = b.length := by omega
  simp [Try.f82, hl2]
  generalize hz : run tab E wl (Code.loop _) _ = z
  obtain ⟨x, s', rfl, hx, hH'⟩ := loop_up (fun c s => E_loop) hz b.length (fun i st => st.env 1 = .lst g (encVs b) ∧ st.env 2 = .func (.func 33) [] [] ∧ st.env 15 = .lst f (encVs a) ∧ st.env 16 = .int .i64 b.length ∧ st.env 17 = .int .i64 i ∧ st.H = H ∧ ∀ j x y, j < i → a[j]? = some x → b[j]? = some y → sameV x y = true)
    (fun x st => ((x = .exit 0 ∧ r = true) ∨ (x = .ret ∧ r = false ∧ st.env 6 = .bool false)) ∧ st.H = H) (by simp [hl2]) (by
      rintro i ⟨e, L, H'⟩ hi ⟨h1, h2, h15, h16, h17, hHH, hj⟩
      have hi2 : i < b.length := hi
      obtain ⟨t, ht⟩ : ∃ t, a[i]? = some t := ⟨_, List.getElem?_eq_getElem (by omega)⟩
      obtain ⟨u, hu⟩ : ∃ u, b[i]? = some u := ⟨_, List.getElem?_eq_getElem (by omega)⟩
      simp only [] at h1 h2 h15 h16 h17 hHH
      subst hHH
      have hia : i < a.length := by omega
      have hw2 := i64w (n := (i : Int) + 1) (by omega) (by omega)
      have hc := fun (w2 : Nat) (L1 : List Blk) => ha t (List.mem_of_getElem? ht) w2 u (L1 :: H') (by simp)
      have hiff := sameVs_iff hl
      obtain ⟨q, hq⟩ : ∃ q, sameV t u = q := ⟨_, rfl⟩
      rw [hq] at hc
      obtain ⟨tk, tg, tf, td, ttr, tn, tkf, tks⟩ := t
      obtain ⟨uk, ug, uf, ud, utr, un, ukf, uks⟩ := u
      simp only [Vl.enc] at hc
      cases q with
      | true =>
        simp [-getElem?_pos, h1, h2, h15, h16, h17, ht, hu, hi, hia, hw2, Vl.enc, hc]
        intro j x y hji hx hy
        rcases Nat.lt_or_ge j i with h | h
        · exact hj j x y h hx hy
        · have : j = i := by omega
          subst this; rw [ht] at hx; rw [hu] at hy; injection hx with hx; injection hy with hy; rw [← hx, ← hy]; exact hq
      | false =>
        simp [-getElem?_pos, h1, h2, h15, h16, h17, ht, hu, hi, hia, hw2, Vl.enc, hc, ← hr]
        cases h : sameVs a b with
        | false => rfl
        | true =>
          have := hiff.1 h i _ _ ht hu
          rw [hq] at this
          cases this) (by
      rintro ⟨e, L, H'⟩ ⟨h1, h2, h15, h16, h17, hHH, hj⟩
      simp only [] at h1 h2 h15 h16 h17 hHH
      simp [h1, h2, h15, h16, h17, hHH, ← hr]
      rw [sameVs_iff hl]
      intro i x y hx hy
      exact hj i x y (List.getElem?_eq_some_iff.1 hy).1 hx hy)
  rcases hx with ⟨rfl, hx⟩ | ⟨rfl, hx, h4⟩
  · simp [hH', hH, hx]
  · simp [hH', hx, h4, hH]

theorem Same_call (M : Nat) (hM : M < 1000000000) (n : Nat) : ∀ (a : Vl), a.size ≤ n → okV M a → SameVC a := by
  induction n using Nat.strongRecOn with
  | _ n ih =>
  intro a hn hok wl b H hH
  refine (E_call Try.func33 rfl rfl (by kernel_rfl) rfl _ (by exact Nat.le_of_ble_eq_true rfl) H).trans ?_
  obtain ⟨ak, ag, af, ad, atr, an, akf, aks⟩ := a
  obtain ⟨bk, bg, bf, bd, btr, bn, bkf, bks⟩ := b
  simp only [Vl.size] at hn
  obtain ⟨hok1, _, hok2, hok3⟩ := hok
  have hi := fun (w2 : Nat) (L1 : List Blk) => eqU32_call (wl := w2) af bf ad bd (L1 :: H) (by simp) (by omega)
  have hs := fun (w2 : Nat) (L1 : List Blk) => eqFuncV_call (wl := w2) akf bkf aks bks (fun t ht => ih t.size (by have := sizeVs_mem ht; omega) t (Nat.le_refl _) (okVs_mem hok3 ht)) (L1 :: H) (by simp) (by omega)
  obtain ⟨x, hx⟩ : ∃ x, decide (ad = bd) = x := ⟨_, rfl⟩
  obtain ⟨y, hy⟩ : ∃ y, sameVs aks bks = y := ⟨_, rfl⟩
  rw [hx] at hi
  rw [hy] at hs
  simp only [sameV]
  rw [hx, hy]
  by_cases h1 : ak = bk
  · subst h1
    by_cases h3 : atr = btr
    · subst h3
      by_cases h2 : an = bn
      · subst h2
        by_cases h4 : ag = bg
        · subst h4
          cases x <;> simp [Try.f33, Vl.enc, hi, hs, hH]
        · have h4' : (ag == bg) = false := by simpa using h4
          simp [Try.f33, Vl.enc, h4, h4', hH]
      · simp [Try.f33, Vl.enc, h2, hH]
    · have h3' : (atr == btr) = false := by simpa using h3
      simp [Try.f33, Vl.enc, h3, h3', hH]
  · have h1' : ((ak : Int) == bk) = false := by rw [beq_eq_false_iff_ne]; omega
    simp [Try.f33, Vl.enc, h1', h1, hH]

theorem number_call {wl : Nat} (ng f : Bool) (ds : List Nat) (H : Heap) (hH : 0 < H.length) : E.call 89 wl [.agg [.bool ng, .lst f (dig ds)]] H = some (.ret (Vl.mk 1 ng f ds false bNil true []).enc, H) := by
  refine (E_call Try.func89 rfl rfl (by kernel_rfl) rfl _ (by exact Nat.le_of_ble_eq_true rfl) H).trans ?_
  simp [Try.f89, hH, Vl.enc, encVs]
end Go.GL.Seat
