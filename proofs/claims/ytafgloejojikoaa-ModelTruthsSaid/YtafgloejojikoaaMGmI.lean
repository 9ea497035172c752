/-
  Walks, mI: what terms come to, by kinds (package model). Printed by genev.py.
-/
import Derived.Test.YtafgloejojikoaaMGl49
set_option linter.unusedSimpArgs false
set_option linter.unusedVariables false
/-! Walks, mI: what terms come to, by kinds (package model). Printed by genev.py. -/
namespace Go.GL.Seat
open Go.Proofs
set_option maxRecDepth 100000
set_option maxHeartbeats 16000000

theorem Eval8_call (M : Nat) (hM : M < 10000000) {wl : Nat} (fd : Bool) (ds : List Dt) (fb : Bool) (bs : List Bd) (nm : ByteArray) (ng df : Bool) (dg : List Nat) (kf : Bool) (ks : List Tm)
    (hds : okD ds) (hks : ks.length < 1000000000)
    (hgood : ∀ l, evalsS ds bs ks = .ok l → (∀ v ∈ l, goodV ds M v) ∧ (digsOf (absV l)).length ≤ M)
    (H : Heap) (hH : 0 < H.length)
    (meth : manyOk (some 2) ks.length = true → ∀ l, evalsS ds bs ks = .ok l → ((∀ v ∈ l, goodV ds M v) ∧ (digsOf (absV l)).length ≤ M) → ∃ (u : Vl) (ok : Bool), (∀ (lf : Bool) (w2 : Nat) (L1 : List Blk), E.call 46 w2 [.agg [.lst fd (encD ds), .int .u8 8, .str nm, .bool ng, .lst df (dig dg), .lst kf (encs ks), .lst lf (encVs l)]] (L1 :: H) = some (.ret (.tup [u.enc, .bool ok]), L1 :: H)) ∧ kindEval ds 8 nm ng dg l = if ok then some u else none)
    (ih : ∀ t ∈ ks, ∀ L1 : List Blk, E.call 16 wl [.lst fd (encD ds), .lst fb (encB bs), t.enc] (L1 :: H) = some (.ret (resP (evalS ds bs t)), L1 :: H)) :
    E.call 16 wl [.lst fd (encD ds), .lst fb (encB bs), (Tm.mk 8 nm ng df dg kf ks).enc] H = some (.ret (resP (kRes ds bs (some 2) 8 nm ng dg ks)), H) := by
  refine (E_call Try.func16 rfl rfl (by kernel_rfl) rfl _ (by exact Nat.le_of_ble_eq_true rfl) H).trans ?_
  obtain ⟨r, hr⟩ : ∃ r, resP (kRes ds bs (some 2) 8 nm ng dg ks) = r := ⟨_, rfl⟩
  rw [hr]
  unfold kRes at hr
  simp only [Tm.enc]
  by_cases hlen : 2 = ks.length
  case neg =>
    have hmo : manyOk (some 2) ks.length = false := by simp [manyOk, hlen]
    rw [hmo] at hr
    simp only [if_true, resP, zero0_enc] at hr
    have hl2 : ((ks.length : Int) == 2) = false := by rw [beq_eq_false_iff_ne]; omega
    have hl3 : ¬ (ks.length : Int) = 2 := by omega
    have hl4 : ¬ ks.length = 2 := by omega
    simp [Try.f16, ← hr, hH, hl2, hl3, hl4]
    done
  have hl2 : ((ks.length : Int) == 2) = true := by rw [beq_iff_eq]; omega
  simp [Try.f16, hl2]
  first | rw [if_pos (show ks = [] from List.eq_nil_of_length_eq_zero hlen.symm)] | rw [if_pos (show (ks.length : Int) = 2 by omega)]
  generalize hz : run tab E wl (Code.loop _) _ = z
  obtain ⟨x, s', rfl, hx⟩ := loop_up (fun c s => E_loop) hz ks.length (fun i st => ∃ l row b2 b3, evalsS ds bs (ks.take i) = .ok l ∧ st.env 1 = .lst fb (encB bs) ∧ st.env 3 = .ptr H.length 0 0 ∧ st.env 5 = .ptr H.length 1 0 ∧ st.env 6 = .ptr H.length 2 0 ∧ st.env 7 = .ptr H.length 3 0 ∧ st.env 10 = .ptr H.length 4 0 ∧ st.env 76 = .lst kf (encs ks) ∧ st.env 77 = .int .i64 ks.length ∧ st.env 78 = .int .i64 i ∧ st.H = H ∧
      st.L[0]? = some (.box [.lst fd (encD ds)]) ∧ st.L[1]? = some (.box [.int .u8 8, .str nm, .bool ng, .lst df (dig dg), .lst kf (encs ks)]) ∧ st.L[2]? = some (.box b2) ∧ b2.length = 6 ∧ st.L[3]? = some (.box [b3]) ∧ st.L[4]? = some (.box [.lst fd (encD ds), .int .u8 8, .str nm, .bool ng, .lst df (dig dg), .lst kf (encs ks), row]) ∧ RowK H.length st.L row l)
    (fun x st => st.env 6 = .ptr H.length 2 0 ∧ st.env 7 = .ptr H.length 3 0 ∧ st.H = H ∧ ((x = .exit 4 ∧ ∃ l row b2 b3, evalsS ds bs ks = .ok l ∧ st.env 5 = .ptr H.length 1 0 ∧ st.env 10 = .ptr H.length 4 0 ∧ st.L[1]? = some (.box [.int .u8 8, .str nm, .bool ng, .lst df (dig dg), .lst kf (encs ks)]) ∧ st.L[2]? = some (.box b2) ∧ b2.length = 6 ∧ st.L[3]? = some (.box [b3]) ∧ st.L[4]? = some (.box [.lst fd (encD ds), .int .u8 8, .str nm, .bool ng, .lst df (dig dg), .lst kf (encs ks), row]) ∧ RowK H.length st.L row l) ∨
      (x = .ret ∧ ∃ e : Nat, evalsS ds bs ks = .error e ∧ st.L[2]? = some (.box [.int .u8 0, .bool false, .lst true [], .bool false, .str bNil, .lst true []]) ∧ st.L[3]? = some (.box [.int .i64 e]))))
    ⟨[], .lst true [], _, _, by simp [evalsS], by simp, by simp, by simp, by simp, by simp, by simp, by simp, by simp, by simp, by simp, by simp, by simp, by simp; rfl, rfl, by simp; rfl, by simp, .inl ⟨rfl, rfl⟩⟩ (by
      rintro i ⟨e, L, H'⟩ hi ⟨l, row, b2, b3, hl, h1, h3, h5, h6, h7, h10, h76, h77, h78, hHH, hL0, hL1, hL2, hb2, hL3, hL4, hrow⟩
      simp only [] at h1 h3 h5 h6 h7 h10 h76 h77 h78 hHH hL0 hL1 hL2 hL3 hL4 hrow
      subst hHH
      obtain ⟨t, ht⟩ : ∃ t, ks[i]? = some t := ⟨_, List.getElem?_eq_getElem hi⟩
      have hc := ih t (List.mem_of_getElem? ht)
      have hw2 := i64w (n := (i : Int) + 1) (by omega) (by omega)
      have hil : i < ks.length := hi
      have hll := evals_len hl
      rw [List.length_take, Nat.min_eq_left (by omega)] at hll
      obtain ⟨a0, a1, a2, a3, a4, a5, rfl⟩ := six b2 hb2
      have l2 := (List.getElem?_eq_some_iff.1 hL2).1
      have l3 := (List.getElem?_eq_some_iff.1 hL3).1
      have l4 := (List.getElem?_eq_some_iff.1 hL4).1
      obtain ⟨tf, td, te⟩ : ∃ tf td, t.enc = .agg [.int .u8 t.k, .str t.nm, .bool t.ng, .lst tf (dig td), .lst t.kf (encs t.ks)] := by cases t; exact ⟨_, _, rfl⟩
      rw [te] at hc
      obtain ⟨q, hq⟩ : ∃ q, evalS ds bs t = q := ⟨_, rfl⟩
      rw [hq] at hc
      cases q with
      | error e' =>
        have he' := eval_err t hq
        have hne : ¬ e' = 0 := by omega
        simp only [resP, zero0_enc] at hc
        have her := evals_err ht hl hq
        simp [-getElem?_pos, h1, h3, h5, h6, h7, h10, h76, h77, h78, ht, te, hi, hc, hw2, app_old hL0, app_old hL1, app_old hL2, app_old hL3, app_old hL4, hne]
        refine ⟨e', her, ?_, ?_⟩
        · rw [List.getElem?_set_self (by simp; omega)]
        · rw [List.getElem?_set_self (by simp; omega)]
      | ok v =>
        have htk := evals_take ht hl hq
        simp only [resP] at hc
        have ve : v.enc = .agg [.int .u8 v.k, .bool v.ng, .lst v.df (dig v.ds), .bool v.tr, .str v.nm, .lst v.ff (encVs v.fs)] := by cases v; rfl
        rw [ve] at hc
        rcases hrow with ⟨rfl, rfl⟩ | ⟨hne, kk, hk5, rfl, hkk⟩
        · simp [-getElem?_pos, h1, h3, h5, h6, h7, h10, h76, h77, h78, ht, te, hi, hc, hw2, app_old hL0, app_old hL1, app_old hL2, app_old hL3, app_old hL4, lim]
          refine ⟨[v], by simpa using htk, .own H'.length (L.length + 3) 1 6, ?_, ?_⟩
          · rw [List.getElem?_set_self (by simp; omega)]
          · refine .inr ⟨by simp, L.length + 3, by omega, by simp, ?_⟩
            rw [List.getElem?_set_ne (by omega)]
            simp [encVs, ve]
        · have hkl := (List.getElem?_eq_some_iff.1 hkk).1
          have hk4 : kk ≠ 4 := by omega
          have hk0 : kk ≠ 0 := by omega
          have hk1 : kk ≠ 1 := by omega
          have hk2 : kk ≠ 2 := by omega
          have hk3 : kk ≠ 3 := by omega
          have hlm : (l.length + 1) * 88 ≤ lim := by unfold lim; omega
          simp [-getElem?_pos, h1, h3, h5, h6, h7, h10, h76, h77, h78, ht, te, hi, hc, hw2, app_old hL0, app_old hL1, app_old hL2, app_old hL3, app_old hL4, app_old hkk, hlm, List.getElem?_set_ne, hk4, hk3, hk2]
          refine ⟨l ++ [v], htk, ?_, ?_, .own H'.length kk (l.length + 1) 6, ?_, ?_⟩
          · rw [List.getElem?_set_ne hk0]; exact app_old hL0
          · rw [List.getElem?_set_ne hk1]; exact app_old hL1
          · rw [List.getElem?_set_self (by simp; omega)]
          · refine .inr ⟨by simp, kk, hk5, by simp, ?_⟩
            rw [List.getElem?_set_ne (by omega), List.getElem?_set_self (by simp; omega)]
            simp [encVs_map, ve]) (by
      rintro ⟨e, L, H'⟩ ⟨l, row, b2, b3, hl, h1, h3, h5, h6, h7, h10, h76, h77, h78, hHH, hL0, hL1, hL2, hb2, hL3, hL4, hrow⟩
      simp only [] at h1 h3 h5 h6 h7 h10 h76 h77 h78 hHH hL0 hL1 hL2 hL3 hL4 hrow
      rw [List.take_length] at hl
      simp [-getElem?_pos, h1, h3, h5, h6, h7, h10, h76, h77, h78, hHH]
      exact ⟨l, hl, hL1, row, b2, hL2, hb2, ⟨b3, hL3⟩, hL4, hrow⟩)
  obtain ⟨h6, h7, hHH, hx⟩ := hx
  rcases hx with ⟨rfl, l, row, b2, b3, hl, h5, h10, hL1, hL2, hb2, hL3, hL4, hrow⟩ | ⟨rfl, e, he, hL2, hL3⟩
  · have hgl := hgood l hl
    rw [hl] at hr
    have hmo : manyOk (some 2) ks.length = true := by simp [manyOk, ← hlen]
    obtain ⟨u, ok, hmc, hrel⟩ := meth hmo l hl hgl
    have ue : u.enc = .agg [.int .u8 u.k, .bool u.ng, .lst u.df (dig u.ds), .bool u.tr, .str u.nm, .lst u.ff (encVs u.fs)] := by cases u; rfl
    rw [ue] at hmc
    simp only [hmo, Bool.true_eq_false, if_false, hrel] at hr
    obtain ⟨a0, a1, a2, a3, a4, a5, rfl⟩ := six b2 hb2
    have l2 := (List.getElem?_eq_some_iff.1 hL2).1
    have l3 := (List.getElem?_eq_some_iff.1 hL3).1
    have l4 := (List.getElem?_eq_some_iff.1 hL4).1
    have q2 : ∀ X b, ((s'.L ++ X).set 2 b)[2]? = some b := fun X b => List.getElem?_set_self (by simp; omega)
    have q3 : ∀ X b c, (((s'.L ++ X).set 2 b).set 3 c)[3]? = some c := fun X b c => List.getElem?_set_self (by simp; omega)
    have q4 : ∀ X b, ((s'.L ++ X).set 2 b)[3]? = some (.box [b3]) := fun X b => by rw [List.getElem?_set_ne (by omega)]; exact app_old hL3
    rcases hrow with ⟨rfl, rfl⟩ | ⟨hne, kk, hk5, rfl, hkk⟩
    · have hmc := hmc true
      simp only [encVs] at hmc
      cases ok with
      | true =>
        simp only [if_true, resP, ue] at hr
        simp [-getElem?_pos, h5, h6, h7, h10, hHH, hL1, hL2, hL3, hL4, app_old hL1, app_old hL2, app_old hL3, app_old hL4, hmc, ← hr, hH, q2, q3, q4]
      | false =>
        simp only [if_false, resP, zero0_enc, Bool.false_eq_true] at hr
        simp [-getElem?_pos, h5, h6, h7, h10, hHH, hL1, hL2, hL3, hL4, app_old hL1, app_old hL2, app_old hL3, app_old hL4, hmc, ← hr, hH, q2, q3, q4]
    · have hmc := hmc false
      have hk4 : kk ≠ 4 := by omega
      have hk1 : kk ≠ 1 := by omega
      have hk2 : kk ≠ 2 := by omega
      have hk3 : kk ≠ 3 := by omega
      have p2 : ∀ m b X c, (((s'.L ++ [m]).set kk b ++ X).set 2 c)[2]? = some c := fun m b X c => List.getElem?_set_self (by simp; omega)
      have p3 : ∀ m b X c d, ((((s'.L ++ [m]).set kk b ++ X).set 2 c).set 3 d)[3]? = some d := fun m b X c d => List.getElem?_set_self (by simp; omega)
      have r2 : ∀ m b X, ((s'.L ++ [m]).set kk b ++ X)[2]? = some (.box [a0, a1, a2, a3, a4, a5]) := fun m b X => app_old (by rw [List.getElem?_set_ne hk2]; exact app_old hL2)
      have r3 : ∀ m b X, ((s'.L ++ [m]).set kk b ++ X)[3]? = some (.box [b3]) := fun m b X => app_old (by rw [List.getElem?_set_ne hk3]; exact app_old hL3)
      have p4 : ∀ m b X c, (((s'.L ++ [m]).set kk b ++ X).set 2 c)[3]? = some (.box [b3]) := fun m b X c => by rw [List.getElem?_set_ne (by omega)]; exact r3 m b X
      have r4 : ∀ m b X, ((s'.L ++ [m]).set kk b ++ X)[s'.L.length + 1]? = X[0]? := fun m b X => by rw [List.getElem?_append_right (by simp)]; simp
      have r5 : ∀ m b X Y, ((s'.L ++ [m]).set kk b ++ X).set (s'.L.length + 1) Y = (s'.L ++ [m]).set kk b ++ X.set 0 Y := fun m b X Y => by rw [List.set_append_right _ _ (by simp)]; simp
      have r6 : ∀ m b, ((s'.L ++ [m]).set kk b).length = s'.L.length + 1 := fun m b => by simp
      cases ok with
      | true =>
        simp only [if_true, resP, ue] at hr
        simp [-getElem?_pos, h5, h6, h7, h10, hHH, hL1, hL2, hL3, hL4, app_old hL1, app_old hL2, app_old hL3, app_old hL4, hmc, app_old hkk, ← hr, hH, r2, r3, r4, r5, r6, p2, p3, p4]
      | false =>
        simp only [if_false, resP, zero0_enc, Bool.false_eq_true] at hr
        simp [-getElem?_pos, h5, h6, h7, h10, hHH, hL1, hL2, hL3, hL4, app_old hL1, app_old hL2, app_old hL3, app_old hL4, hmc, app_old hkk, ← hr, hH, r2, r3, r4, r5, r6, p2, p3, p4]
  · rw [he] at hr
    have hne : manyOk (some 2) ks.length = true := by simp [manyOk, ← hlen]
    simp only [hne, Bool.true_eq_false, if_false, resP, zero0_enc] at hr
    simp [-getElem?_pos, h6, h7, hHH, hL2, hL3, hH, ← hr]

theorem Eval9_call (M : Nat) (hM : M < 10000000) {wl : Nat} (fd : Bool) (ds : List Dt) (fb : Bool) (bs : List Bd) (nm : ByteArray) (ng df : Bool) (dg : List Nat) (kf : Bool) (ks : List Tm)
    (hds : okD ds) (hks : ks.length < 1000000000)
    (hgood : ∀ l, evalsS ds bs ks = .ok l → (∀ v ∈ l, goodV ds M v) ∧ (digsOf (absV l)).length ≤ M)
    (H : Heap) (hH : 0 < H.length)
    (meth : manyOk (some 2) ks.length = true → ∀ l, evalsS ds bs ks = .ok l → ((∀ v ∈ l, goodV ds M v) ∧ (digsOf (absV l)).length ≤ M) → ∃ (u : Vl) (ok : Bool), (∀ (lf : Bool) (w2 : Nat) (L1 : List Blk), E.call 47 w2 [.agg [.lst fd (encD ds), .int .u8 9, .str nm, .bool ng, .lst df (dig dg), .lst kf (encs ks), .lst lf (encVs l)]] (L1 :: H) = some (.ret (.tup [u.enc, .bool ok]), L1 :: H)) ∧ kindEval ds 9 nm ng dg l = if ok then some u else none)
    (ih : ∀ t ∈ ks, ∀ L1 : List Blk, E.call 16 wl [.lst fd (encD ds), .lst fb (encB bs), t.enc] (L1 :: H) = some (.ret (resP (evalS ds bs t)), L1 :: H)) :
    E.call 16 wl [.lst fd (encD ds), .lst fb (encB bs), (Tm.mk 9 nm ng df dg kf ks).enc] H = some (.ret (resP (kRes ds bs (some 2) 9 nm ng dg ks)), H) := by
  refine (E_call Try.func16 rfl rfl (by kernel_rfl) rfl _ (by exact Nat.le_of_ble_eq_true rfl) H).trans ?_
  obtain ⟨r, hr⟩ : ∃ r, resP (kRes ds bs (some 2) 9 nm ng dg ks) = r := ⟨_, rfl⟩
  rw [hr]
  unfold kRes at hr
  simp only [Tm.enc]
  by_cases hlen : 2 = ks.length
  case neg =>
    have hmo : manyOk (some 2) ks.length = false := by simp [manyOk, hlen]
    rw [hmo] at hr
    simp only [if_true, resP, zero0_enc] at hr
    have hl2 : ((ks.length : Int) == 2) = false := by rw [beq_eq_false_iff_ne]; omega
    have hl3 : ¬ (ks.length : Int) = 2 := by omega
    have hl4 : ¬ ks.length = 2 := by omega
    simp [Try.f16, ← hr, hH, hl2, hl3, hl4]
    done
  have hl2 : ((ks.length : Int) == 2) = true := by rw [beq_iff_eq]; omega
  simp [Try.f16, hl2]
  first | rw [if_pos (show ks = [] from List.eq_nil_of_length_eq_zero hlen.symm)] | rw [if_pos (show (ks.length : Int) = 2 by omega)]
  generalize hz : run tab E wl (Code.loop _) _ = z
  obtain ⟨x, s', rfl, hx⟩ := loop_up (fun c s => E_loop) hz ks.length (fun i st => ∃ l row b2 b3, evalsS ds bs (ks.take i) = .ok l ∧ st.env 1 = .lst fb (encB bs) ∧ st.env 3 = .ptr H.length 0 0 ∧ st.env 5 = .ptr H.length 1 0 ∧ st.env 6 = .ptr H.length 2 0 ∧ st.env 7 = .ptr H.length 3 0 ∧ st.env 10 = .ptr H.length 4 0 ∧ st.env 76 = .lst kf (encs ks) ∧ st.env 77 = .int .i64 ks.length ∧ st.env 78 = .int .i64 i ∧ st.H = H ∧
      st.L[0]? = some (.box [.lst fd (encD ds)]) ∧ st.L[1]? = some (.box [.int .u8 9, .str nm, .bool ng, .lst df (dig dg), .lst kf (encs ks)]) ∧ st.L[2]? = some (.box b2) ∧ b2.length = 6 ∧ st.L[3]? = some (.box [b3]) ∧ st.L[4]? = some (.box [.lst fd (encD ds), .int .u8 9, .str nm, .bool ng, .lst df (dig dg), .lst kf (encs ks), row]) ∧ RowK H.length st.L row l)
    (fun x st => st.env 6 = .ptr H.length 2 0 ∧ st.env 7 = .ptr H.length 3 0 ∧ st.H = H ∧ ((x = .exit 4 ∧ ∃ l row b2 b3, evalsS ds bs ks = .ok l ∧ st.env 5 = .ptr H.length 1 0 ∧ st.env 10 = .ptr H.length 4 0 ∧ st.L[1]? = some (.box [.int .u8 9, .str nm, .bool ng, .lst df (dig dg), .lst kf (encs ks)]) ∧ st.L[2]? = some (.box b2) ∧ b2.length = 6 ∧ st.L[3]? = some (.box [b3]) ∧ st.L[4]? = some (.box [.lst fd (encD ds), .int .u8 9, .str nm, .bool ng, .lst df (dig dg), .lst kf (encs ks), row]) ∧ RowK H.length st.L row l) ∨
      (x = .ret ∧ ∃ e : Nat, evalsS ds bs ks = .error e ∧ st.L[2]? = some (.box [.int .u8 0, .bool false, .lst true [], .bool false, .str bNil, .lst true []]) ∧ st.L[3]? = some (.box [.int .i64 e]))))
    ⟨[], .lst true [], _, _, by simp [evalsS], by simp, by simp, by simp, by simp, by simp, by simp, by simp, by simp, by simp, by simp, by simp, by simp, by simp; rfl, rfl, by simp; rfl, by simp, .inl ⟨rfl, rfl⟩⟩ (by
      rintro i ⟨e, L, H'⟩ hi ⟨l, row, b2, b3, hl, h1, h3, h5, h6, h7, h10, h76, h77, h78, hHH, hL0, hL1, hL2, hb2, hL3, hL4, hrow⟩
      simp only [] at h1 h3 h5 h6 h7 h10 h76 h77 h78 hHH hL0 hL1 hL2 hL3 hL4 hrow
      subst hHH
      obtain ⟨t, ht⟩ : ∃ t, ks[i]? = some t := ⟨_, List.getElem?_eq_getElem hi⟩
      have hc := ih t (List.mem_of_getElem? ht)
      have hw2 := i64w (n := (i : Int) + 1) (by omega) (by omega)
      have hil : i < ks.length := hi
      have hll := evals_len hl
      rw [List.length_take, Nat.min_eq_left (by omega)] at hll
      obtain ⟨a0, a1, a2, a3, a4, a5, rfl⟩ := six b2 hb2
      have l2 := (List.getElem?_eq_some_iff.1 hL2).1
      have l3 := (List.getElem?_eq_some_iff.1 hL3).1
      have l4 := (List.getElem?_eq_some_iff.1 hL4).1
      obtain ⟨tf, td, te⟩ : ∃ tf td, t.enc = .agg [.int .u8 t.k, .str t.nm, .bool t.ng, .lst tf (dig td), .lst t.kf (encs t.ks)] := by cases t; exact ⟨_, _, rfl⟩
      rw [te] at hc
      obtain ⟨q, hq⟩ : ∃ q, evalS ds bs t = q := ⟨_, rfl⟩
      rw [hq] at hc
      cases q with
      | error e' =>
        have he' := eval_err t hq
        have hne : ¬ e' = 0 := by omega
        simp only [resP, zero0_enc] at hc
        have her := evals_err ht hl hq
        simp [-getElem?_pos, h1, h3, h5, h6, h7, h10, h76, h77, h78, ht, te, hi, hc, hw2, app_old hL0, app_old hL1, app_old hL2, app_old hL3, app_old hL4, hne]
        refine ⟨e', her, ?_, ?_⟩
        · rw [List.getElem?_set_self (by simp; omega)]
        · rw [List.getElem?_set_self (by simp; omega)]
      | ok v =>
        have htk := evals_take ht hl hq
        simp only [resP] at hc
        have ve : v.enc = .agg [.int .u8 v.k, .bool v.ng, .lst v.df (dig v.ds), .bool v.tr, .str v.nm, .lst v.ff (encVs v.fs)] := by cases v; rfl
        rw [ve] at hc
        rcases hrow with ⟨rfl, rfl⟩ | ⟨hne, kk, hk5, rfl, hkk⟩
        · simp [-getElem?_pos, h1, h3, h5, h6, h7, h10, h76, h77, h78, ht, te, hi, hc, hw2, app_old hL0, app_old hL1, app_old hL2, app_old hL3, app_old hL4, lim]
          refine ⟨[v], by simpa using htk, .own H'.length (L.length + 3) 1 6, ?_, ?_⟩
          · rw [List.getElem?_set_self (by simp; omega)]
          · refine .inr ⟨by simp, L.length + 3, by omega, by simp, ?_⟩
            rw [List.getElem?_set_ne (by omega)]
            simp [encVs, ve]
        · have hkl := (List.getElem?_eq_some_iff.1 hkk).1
          have hk4 : kk ≠ 4 := by omega
          have hk0 : kk ≠ 0 := by omega
          have hk1 : kk ≠ 1 := by omega
          have hk2 : kk ≠ 2 := by omega
          have hk3 : kk ≠ 3 := by omega
          have hlm : (l.length + 1) * 88 ≤ lim := by unfold lim; omega
          simp [-getElem?_pos, h1, h3, h5, h6, h7, h10, h76, h77, h78, ht, te, hi, hc, hw2, app_old hL0, app_old hL1, app_old hL2, app_old hL3, app_old hL4, app_old hkk, hlm, List.getElem?_set_ne, hk4, hk3, hk2]
          refine ⟨l ++ [v], htk, ?_, ?_, .own H'.length kk (l.length + 1) 6, ?_, ?_⟩
          · rw [List.getElem?_set_ne hk0]; exact app_old hL0
          · rw [List.getElem?_set_ne hk1]; exact app_old hL1
          · rw [List.getElem?_set_self (by simp; omega)]
          · refine .inr ⟨by simp, kk, hk5, by simp, ?_⟩
            rw [List.getElem?_set_ne (by omega), List.getElem?_set_self (by simp; omega)]
            simp [encVs_map, ve]) (by
      rintro ⟨e, L, H'⟩ ⟨l, row, b2, b3, hl, h1, h3, h5, h6, h7, h10, h76, h77, h78, hHH, hL0, hL1, hL2, hb2, hL3, hL4, hrow⟩
      simp only [] at h1 h3 h5 h6 h7 h10 h76 h77 h78 hHH hL0 hL1 hL2 hL3 hL4 hrow
      rw [List.take_length] at hl
      simp [-getElem?_pos, h1, h3, h5, h6, h7, h10, h76, h77, h78, hHH]
      exact ⟨l, hl, hL1, row, b2, hL2, hb2, ⟨b3, hL3⟩, hL4, hrow⟩)
  obtain ⟨h6, h7, hHH, hx⟩ := hx
  rcases hx with ⟨rfl, l, row, b2, b3, hl, h5, h10, hL1, hL2, hb2, hL3, hL4, hrow⟩ | ⟨rfl, e, he, hL2, hL3⟩
  · have hgl := hgood l hl
    rw [hl] at hr
    have hmo : manyOk (some 2) ks.length = true := by simp [manyOk, ← hlen]
    obtain ⟨u, ok, hmc, hrel⟩ := meth hmo l hl hgl
    have ue : u.enc = .agg [.int .u8 u.k, .bool u.ng, .lst u.df (dig u.ds), .bool u.tr, .str u.nm, .lst u.ff (encVs u.fs)] := by cases u; rfl
    rw [ue] at hmc
    simp only [hmo, Bool.true_eq_false, if_false, hrel] at hr
    obtain ⟨a0, a1, a2, a3, a4, a5, rfl⟩ := six b2 hb2
    have l2 := (List.getElem?_eq_some_iff.1 hL2).1
    have l3 := (List.getElem?_eq_some_iff.1 hL3).1
    have l4 := (List.getElem?_eq_some_iff.1 hL4).1
    have q2 : ∀ X b, ((s'.L ++ X).set 2 b)[2]? = some b := fun X b => List.getElem?_set_self (by simp; omega)
    have q3 : ∀ X b c, (((s'.L ++ X).set 2 b).set 3 c)[3]? = some c := fun X b c => List.getElem?_set_self (by simp; omega)
    have q4 : ∀ X b, ((s'.L ++ X).set 2 b)[3]? = some (.box [b3]) := fun X b => by rw [List.getElem?_set_ne (by omega)]; exact app_old hL3
    rcases hrow with ⟨rfl, rfl⟩ | ⟨hne, kk, hk5, rfl, hkk⟩
    · have hmc := hmc true
      simp only [encVs] at hmc
      cases ok with
      | true =>
        simp only [if_true, resP, ue] at hr
        simp [-getElem?_pos, h5, h6, h7, h10, hHH, hL1, hL2, hL3, hL4, app_old hL1, app_old hL2, app_old hL3, app_old hL4, hmc, ← hr, hH, q2, q3, q4]
      | false =>
        simp only [if_false, resP, zero0_enc, Bool.false_eq_true] at hr
        simp [-getElem?_pos, h5, h6, h7, h10, hHH, hL1, hL2, hL3, hL4, app_old hL1, app_old hL2, app_old hL3, app_old hL4, hmc, ← hr, hH, q2, q3, q4]
    · have hmc := hmc false
      have hk4 : kk ≠ 4 := by omega
      have hk1 : kk ≠ 1 := by omega
      have hk2 : kk ≠ 2 := by omega
      have hk3 : kk ≠ 3 := by omega
      have p2 : ∀ m b X c, (((s'.L ++ [m]).set kk b ++ X).set 2 c)[2]? = some c := fun m b X c => List.getElem?_set_self (by simp; omega)
      have p3 : ∀ m b X c d, ((((s'.L ++ [m]).set kk b ++ X).set 2 c).set 3 d)[3]? = some d := fun m b X c d => List.getElem?_set_self (by simp; omega)
      have r2 : ∀ m b X, ((s'.L ++ [m]).set kk b ++ X)[2]? = some (.box [a0, a1, a2, a3, a4, a5]) := fun m b X => app_old (by rw [List.getElem?_set_ne hk2]; exact app_old hL2)
      have r3 : ∀ m b X, ((s'.L ++ [m]).set kk b ++ X)[3]? = some (.box [b3]) := fun m b X => app_old (by rw [List.getElem?_set_ne hk3]; exact app_old hL3)
      have p4 : ∀ m b X c, (((s'.L ++ [m]).set kk b ++ X).set 2 c)[3]? = some (.box [b3]) := fun m b X c => by rw [List.getElem?_set_ne (by omega)]; exact r3 m b X
      have r4 : ∀ m b X, ((s'.L ++ [m]).set kk b ++ X)[s'.L.length + 1]? = X[0]? := fun m b X => by rw [List.getElem?_append_right (by simp)]; simp
      have r5 : ∀ m b X Y, ((s'.L ++ [m]).set kk b ++ X).set (s'.L.length + 1) Y = (s'.L ++ [m]).set kk b ++ X.set 0 Y := fun m b X Y => by rw [List.set_append_right _ _ (by simp)]; simp
      have r6 : ∀ m b, ((s'.L ++ [m]).set kk b).length = s'.L.length + 1 := fun m b => by simp
      cases ok with
      | true =>
        simp only [if_true, resP, ue] at hr
        simp [-getElem?_pos, h5, h6, h7, h10, hHH, hL1, hL2, hL3, hL4, app_old hL1, app_old hL2, app_old hL3, app_old hL4, hmc, app_old hkk, ← hr, hH, r2, r3, r4, r5, r6, p2, p3, p4]
      | false =>
        simp only [if_false, resP, zero0_enc, Bool.false_eq_true] at hr
        simp [-getElem?_pos, h5, h6, h7, h10, hHH, hL1, hL2, hL3, hL4, app_old hL1, app_old hL2, app_old hL3, app_old hL4, hmc, app_old hkk, ← hr, hH, r2, r3, r4, r5, r6, p2, p3, p4]
  · rw [he] at hr
    have hne : manyOk (some 2) ks.length = true := by simp [manyOk, ← hlen]
    simp only [hne, Bool.true_eq_false, if_false, resP, zero0_enc] at hr
    simp [-getElem?_pos, h6, h7, hHH, hL2, hL3, hH, ← hr]

theorem Eval10_call (M : Nat) (hM : M < 10000000) {wl : Nat} (fd : Bool) (ds : List Dt) (fb : Bool) (bs : List Bd) (nm : ByteArray) (ng df : Bool) (dg : List Nat) (kf : Bool) (ks : List Tm)
    (hds : okD ds) (hks : ks.length < 1000000000)
    (hgood : ∀ l, evalsS ds bs ks = .ok l → (∀ v ∈ l, goodV ds M v) ∧ (digsOf (absV l)).length ≤ M)
    (H : Heap) (hH : 0 < H.length)
    (meth : manyOk (some 1) ks.length = true → ∀ l, evalsS ds bs ks = .ok l → ((∀ v ∈ l, goodV ds M v) ∧ (digsOf (absV l)).length ≤ M) → ∃ (u : Vl) (ok : Bool), (∀ (lf : Bool) (w2 : Nat) (L1 : List Blk), E.call 48 w2 [.agg [.lst fd (encD ds), .int .u8 10, .str nm, .bool ng, .lst df (dig dg), .lst kf (encs ks), .lst lf (encVs l)]] (L1 :: H) = some (.ret (.tup [u.enc, .bool ok]), L1 :: H)) ∧ kindEval ds 10 nm ng dg l = if ok then some u else none)
    (ih : ∀ t ∈ ks, ∀ L1 : List Blk, E.call 16 wl [.lst fd (encD ds), .lst fb (encB bs), t.enc] (L1 :: H) = some (.ret (resP (evalS ds bs t)), L1 :: H)) :
    E.call 16 wl [.lst fd (encD ds), .lst fb (encB bs), (Tm.mk 10 nm ng df dg kf ks).enc] H = some (.ret (resP (kRes ds bs (some 1) 10 nm ng dg ks)), H) := by
  refine (E_call Try.func16 rfl rfl (by kernel_rfl) rfl _ (by exact Nat.le_of_ble_eq_true rfl) H).trans ?_
  obtain ⟨r, hr⟩ : ∃ r, resP (kRes ds bs (some 1) 10 nm ng dg ks) = r := ⟨_, rfl⟩
  rw [hr]
  unfold kRes at hr
  simp only [Tm.enc]
  by_cases hlen : 1 = ks.length
  case neg =>
    have hmo : manyOk (some 1) ks.length = false := by simp [manyOk, hlen]
    rw [hmo] at hr
    simp only [if_true, resP, zero0_enc] at hr
    have hl2 : ((ks.length : Int) == 1) = false := by rw [beq_eq_false_iff_ne]; omega
    have hl3 : ¬ (ks.length : Int) = 1 := by omega
    have hl4 : ¬ ks.length = 1 := by omega
    simp [Try.f16, ← hr, hH, hl2, hl3, hl4]
    done
  have hl2 : ((ks.length : Int) == 1) = true := by rw [beq_iff_eq]; omega
  simp [Try.f16, hl2]
  first | rw [if_pos (show ks = [] from List.eq_nil_of_length_eq_zero hlen.symm)] | rw [if_pos (show (ks.length : Int) = 1 by omega)]
  generalize hz : run tab E wl (Code.loop _) _ = z
  obtain ⟨x, s', rfl, hx⟩ := loop_up (fun c s => E_loop) hz ks.length (fun i st => ∃ l row b2 b3, evalsS ds bs (ks.take i) = .ok l ∧ st.env 1 = .lst fb (encB bs) ∧ st.env 3 = .ptr H.length 0 0 ∧ st.env 5 = .ptr H.length 1 0 ∧ st.env 6 = .ptr H.length 2 0 ∧ st.env 7 = .ptr H.length 3 0 ∧ st.env 10 = .ptr H.length 4 0 ∧ st.env 76 = .lst kf (encs ks) ∧ st.env 77 = .int .i64 ks.length ∧ st.env 78 = .int .i64 i ∧ st.H = H ∧
      st.L[0]? = some (.box [.lst fd (encD ds)]) ∧ st.L[1]? = some (.box [.int .u8 10, .str nm, .bool ng, .lst df (dig dg), .lst kf (encs ks)]) ∧ st.L[2]? = some (.box b2) ∧ b2.length = 6 ∧ st.L[3]? = some (.box [b3]) ∧ st.L[4]? = some (.box [.lst fd (encD ds), .int .u8 10, .str nm, .bool ng, .lst df (dig dg), .lst kf (encs ks), row]) ∧ RowK H.length st.L row l)
    (fun x st => st.env 6 = .ptr H.length 2 0 ∧ st.env 7 = .ptr H.length 3 0 ∧ st.H = H ∧ ((x = .exit 4 ∧ ∃ l row b2 b3, evalsS ds bs ks = .ok l ∧ st.env 5 = .ptr H.length 1 0 ∧ st.env 10 = .ptr H.length 4 0 ∧ st.L[1]? = some (.box [.int .u8 10, .str nm, .bool ng, .lst df (dig dg), .lst kf (encs ks)]) ∧ st.L[2]? = some (.box b2) ∧ b2.length = 6 ∧ st.L[3]? = some (.box [b3]) ∧ st.L[4]? = some (.box [.lst fd (encD ds), .int .u8 10, .str nm, .bool ng, .lst df (dig dg), .lst kf (encs ks), row]) ∧ RowK H.length st.L row l) ∨
      (x = .ret ∧ ∃ e : Nat, evalsS ds bs ks = .error e ∧ st.L[2]? = some (.box [.int .u8 0, .bool false, .lst true [], .bool false, .str bNil, .lst true []]) ∧ st.L[3]? = some (.box [.int .i64 e]))))
    ⟨[], .lst true [], _, _, by simp [evalsS], by simp, by simp, by simp, by simp, by simp, by simp, by simp, by simp, by simp, by simp, by simp, by simp, by simp; rfl, rfl, by simp; rfl, by simp, .inl ⟨rfl, rfl⟩⟩ (by
      rintro i ⟨e, L, H'⟩ hi ⟨l, row, b2, b3, hl, h1, h3, h5, h6, h7, h10, h76, h77, h78, hHH, hL0, hL1, hL2, hb2, hL3, hL4, hrow⟩
      simp only [] at h1 h3 h5 h6 h7 h10 h76 h77 h78 hHH hL0 hL1 hL2 hL3 hL4 hrow
      subst hHH
      obtain ⟨t, ht⟩ : ∃ t, ks[i]? = some t := ⟨_, List.getElem?_eq_getElem hi⟩
      have hc := ih t (List.mem_of_getElem? ht)
      have hw2 := i64w (n := (i : Int) + 1) (by omega) (by omega)
      have hil : i < ks.length := hi
      have hll := evals_len hl
      rw [List.length_take, Nat.min_eq_left (by omega)] at hll
      obtain ⟨a0, a1, a2, a3, a4, a5, rfl⟩ := six b2 hb2
      have l2 := (List.getElem?_eq_some_iff.1 hL2).1
      have l3 := (List.getElem?_eq_some_iff.1 hL3).1
      have l4 := (List.getElem?_eq_some_iff.1 hL4).1
      obtain ⟨tf, td, te⟩ : ∃ tf td, t.enc = .agg [.int .u8 t.k, .str t.nm, .bool t.ng, .lst tf (dig td), .lst t.kf (encs t.ks)] := by cases t; exact ⟨_, _, rfl⟩
      rw [te] at hc
      obtain ⟨q, hq⟩ : ∃ q, evalS ds bs t = q := ⟨_, rfl⟩
      rw [hq] at hc
      cases q with
      | error e' =>
        have he' := eval_err t hq
        have hne : ¬ e' = 0 := by omega
        simp only [resP, zero0_enc] at hc
        have her := evals_err ht hl hq
        simp [-getElem?_pos, h1, h3, h5, h6, h7, h10, h76, h77, h78, ht, te, hi, hc, hw2, app_old hL0, app_old hL1, app_old hL2, app_old hL3, app_old hL4, hne]
        refine ⟨e', her, ?_, ?_⟩
        · rw [List.getElem?_set_self (by simp; omega)]
        · rw [List.getElem?_set_self (by simp; omega)]
      | ok v =>
        have htk := evals_take ht hl hq
        simp only [resP] at hc
        have ve : v.enc = .agg [.int .u8 v.k, .bool v.ng, .lst v.df (dig v.ds), .bool v.tr, .str v.nm, .lst v.ff (encVs v.fs)] := by cases v; rfl
        rw [ve] at hc
        rcases hrow with ⟨rfl, rfl⟩ | ⟨hne, kk, hk5, rfl, hkk⟩
        · simp [-getElem?_pos, h1, h3, h5, h6, h7, h10, h76, h77, h78, ht, te, hi, hc, hw2, app_old hL0, app_old hL1, app_old hL2, app_old hL3, app_old hL4, lim]
          refine ⟨[v], by simpa using htk, .own H'.length (L.length + 3) 1 6, ?_, ?_⟩
          · rw [List.getElem?_set_self (by simp; omega)]
          · refine .inr ⟨by simp, L.length + 3, by omega, by simp, ?_⟩
            rw [List.getElem?_set_ne (by omega)]
            simp [encVs, ve]
        · have hkl := (List.getElem?_eq_some_iff.1 hkk).1
          have hk4 : kk ≠ 4 := by omega
          have hk0 : kk ≠ 0 := by omega
          have hk1 : kk ≠ 1 := by omega
          have hk2 : kk ≠ 2 := by omega
          have hk3 : kk ≠ 3 := by omega
          have hlm : (l.length + 1) * 88 ≤ lim := by unfold lim; omega
          simp [-getElem?_pos, h1, h3, h5, h6, h7, h10, h76, h77, h78, ht, te, hi, hc, hw2, app_old hL0, app_old hL1, app_old hL2, app_old hL3, app_old hL4, app_old hkk, hlm, List.getElem?_set_ne, hk4, hk3, hk2]
          refine ⟨l ++ [v], htk, ?_, ?_, .own H'.length kk (l.length + 1) 6, ?_, ?_⟩
          · rw [List.getElem?_set_ne hk0]; exact app_old hL0
          · rw [List.getElem?_set_ne hk1]; exact app_old hL1
          · rw [List.getElem?_set_self (by simp; omega)]
          · refine .inr ⟨by simp, kk, hk5, by simp, ?_⟩
            rw [List.getElem?_set_ne (by omega), List.getElem?_set_self (by simp; omega)]
            simp [encVs_map, ve]) (by
      rintro ⟨e, L, H'⟩ ⟨l, row, b2, b3, hl, h1, h3, h5, h6, h7, h10, h76, h77, h78, hHH, hL0, hL1, hL2, hb2, hL3, hL4, hrow⟩
      simp only [] at h1 h3 h5 h6 h7 h10 h76 h77 h78 hHH hL0 hL1 hL2 hL3 hL4 hrow
      rw [List.take_length] at hl
      simp [-getElem?_pos, h1, h3, h5, h6, h7, h10, h76, h77, h78, hHH]
      exact ⟨l, hl, hL1, row, b2, hL2, hb2, ⟨b3, hL3⟩, hL4, hrow⟩)
  obtain ⟨h6, h7, hHH, hx⟩ := hx
  rcases hx with ⟨rfl, l, row, b2, b3, hl, h5, h10, hL1, hL2, hb2, hL3, hL4, hrow⟩ | ⟨rfl, e, he, hL2, hL3⟩
  · have hgl := hgood l hl
    rw [hl] at hr
    have hmo : manyOk (some 1) ks.length = true := by simp [manyOk, ← hlen]
    obtain ⟨u, ok, hmc, hrel⟩ := meth hmo l hl hgl
    have ue : u.enc = .agg [.int .u8 u.k, .bool u.ng, .lst u.df (dig u.ds), .bool u.tr, .str u.nm, .lst u.ff (encVs u.fs)] := by cases u; rfl
    rw [ue] at hmc
    simp only [hmo, Bool.true_eq_false, if_false, hrel] at hr
    obtain ⟨a0, a1, a2, a3, a4, a5, rfl⟩ := six b2 hb2
    have l2 := (List.getElem?_eq_some_iff.1 hL2).1
    have l3 := (List.getElem?_eq_some_iff.1 hL3).1
    have l4 := (List.getElem?_eq_some_iff.1 hL4).1
    have q2 : ∀ X b, ((s'.L ++ X).set 2 b)[2]? = some b := fun X b => List.getElem?_set_self (by simp; omega)
    have q3 : ∀ X b c, (((s'.L ++ X).set 2 b).set 3 c)[3]? = some c := fun X b c => List.getElem?_set_self (by simp; omega)
    have q4 : ∀ X b, ((s'.L ++ X).set 2 b)[3]? = some (.box [b3]) := fun X b => by rw [List.getElem?_set_ne (by omega)]; exact app_old hL3
    rcases hrow with ⟨rfl, rfl⟩ | ⟨hne, kk, hk5, rfl, hkk⟩
    · have hmc := hmc true
      simp only [encVs] at hmc
      cases ok with
      | true =>
        simp only [if_true, resP, ue] at hr
        simp [-getElem?_pos, h5, h6, h7, h10, hHH, hL1, hL2, hL3, hL4, app_old hL1, app_old hL2, app_old hL3, app_old hL4, hmc, ← hr, hH, q2, q3, q4]
      | false =>
        simp only [if_false, resP, zero0_enc, Bool.false_eq_true] at hr
        simp [-getElem?_pos, h5, h6, h7, h10, hHH, hL1, hL2, hL3, hL4, app_old hL1, app_old hL2, app_old hL3, app_old hL4, hmc, ← hr, hH, q2, q3, q4]
    · have hmc := hmc false
      have hk4 : kk ≠ 4 := by omega
      have hk1 : kk ≠ 1 := by omega
      have hk2 : kk ≠ 2 := by omega
      have hk3 : kk ≠ 3 := by omega
      have p2 : ∀ m b X c, (((s'.L ++ [m]).set kk b ++ X).set 2 c)[2]? = some c := fun m b X c => List.getElem?_set_self (by simp; omega)
      have p3 : ∀ m b X c d, ((((s'.L ++ [m]).set kk b ++ X).set 2 c).set 3 d)[3]? = some d := fun m b X c d => List.getElem?_set_self (by simp; omega)
      have r2 : ∀ m b X, ((s'.L ++ [m]).set kk b ++ X)[2]? = some (.box [a0, a1, a2, a3, a4, a5]) := fun m b X => app_old (by rw [List.getElem?_set_ne hk2]; exact app_old hL2)
      have r3 : ∀ m b X, ((s'.L ++ [m]).set kk b ++ X)[3]? = some (.box [b3]) := fun m b X => app_old (by rw [List.getElem?_set_ne hk3]; exact app_old hL3)
      have p4 : ∀ m b X c, (((s'.L ++ [m]).set kk b ++ X).set 2 c)[3]? = some (.box [b3]) := fun m b X c => by rw [List.getElem?_set_ne (by omega)]; exact r3 m b X
      have r4 : ∀ m b X, ((s'.L ++ [m]).set kk b ++ X)[s'.L.length + 1]? = X[0]? := fun m b X => by rw [List.getElem?_append_right (by simp)]; simp
      have r5 : ∀ m b X Y, ((s'.L ++ [m]).set kk b ++ X).set (s'.L.length + 1) Y = (s'.L ++ [m]).set kk b ++ X.set 0 Y := fun m b X Y => by rw [List.set_append_right _ _ (by simp)]; simp
      have r6 : ∀ m b, ((s'.L ++ [m]).set kk b).length = s'.L.length + 1 := fun m b => by simp
      cases ok with
      | true =>
        simp only [if_true, resP, ue] at hr
        simp [-getElem?_pos, h5, h6, h7, h10, hHH, hL1, hL2, hL3, hL4, app_old hL1, app_old hL2, app_old hL3, app_old hL4, hmc, app_old hkk, ← hr, hH, r2, r3, r4, r5, r6, p2, p3, p4]
      | false =>
        simp only [if_false, resP, zero0_enc, Bool.false_eq_true] at hr
        simp [-getElem?_pos, h5, h6, h7, h10, hHH, hL1, hL2, hL3, hL4, app_old hL1, app_old hL2, app_old hL3, app_old hL4, hmc, app_old hkk, ← hr, hH, r2, r3, r4, r5, r6, p2, p3, p4]
  · rw [he] at hr
    have hne : manyOk (some 1) ks.length = true := by simp [manyOk, ← hlen]
    simp only [hne, Bool.true_eq_false, if_false, resP, zero0_enc] at hr
    simp [-getElem?_pos, h6, h7, hHH, hL2, hL3, hH, ← hr]

theorem Eval11_call (M : Nat) (hM : M < 10000000) {wl : Nat} (fd : Bool) (ds : List Dt) (fb : Bool) (bs : List Bd) (nm : ByteArray) (ng df : Bool) (dg : List Nat) (kf : Bool) (ks : List Tm)
    (hds : okD ds) (hks : ks.length < 1000000000)
    (hgood : ∀ l, evalsS ds bs ks = .ok l → (∀ v ∈ l, goodV ds M v) ∧ (digsOf (absV l)).length ≤ M)
    (H : Heap) (hH : 0 < H.length)
    (meth : manyOk none ks.length = true → ∀ l, evalsS ds bs ks = .ok l → ((∀ v ∈ l, goodV ds M v) ∧ (digsOf (absV l)).length ≤ M) → ∃ (u : Vl) (ok : Bool), (∀ (lf : Bool) (w2 : Nat) (L1 : List Blk), E.call 50 w2 [.agg [.lst fd (encD ds), .int .u8 11, .str nm, .bool ng, .lst df (dig dg), .lst kf (encs ks), .lst lf (encVs l)]] (L1 :: H) = some (.ret (.tup [u.enc, .bool ok]), L1 :: H)) ∧ kindEval ds 11 nm ng dg l = if ok then some u else none)
    (ih : ∀ t ∈ ks, ∀ L1 : List Blk, E.call 16 wl [.lst fd (encD ds), .lst fb (encB bs), t.enc] (L1 :: H) = some (.ret (resP (evalS ds bs t)), L1 :: H)) :
    E.call 16 wl [.lst fd (encD ds), .lst fb (encB bs), (Tm.mk 11 nm ng df dg kf ks).enc] H = some (.ret (resP (kRes ds bs none 11 nm ng dg ks)), H) := by
  refine (E_call Try.func16 rfl rfl (by kernel_rfl) rfl _ (by exact Nat.le_of_ble_eq_true rfl) H).trans ?_
  obtain ⟨r, hr⟩ : ∃ r, resP (kRes ds bs none 11 nm ng dg ks) = r := ⟨_, rfl⟩
  rw [hr]
  unfold kRes at hr
  simp only [Tm.enc]
  simp [Try.f16]
  generalize hz : run tab E wl (Code.loop _) _ = z
  obtain ⟨x, s', rfl, hx⟩ := loop_up (fun c s => E_loop) hz ks.length (fun i st => ∃ l row b2 b3, evalsS ds bs (ks.take i) = .ok l ∧ st.env 1 = .lst fb (encB bs) ∧ st.env 3 = .ptr H.length 0 0 ∧ st.env 5 = .ptr H.length 1 0 ∧ st.env 6 = .ptr H.length 2 0 ∧ st.env 7 = .ptr H.length 3 0 ∧ st.env 10 = .ptr H.length 4 0 ∧ st.env 76 = .lst kf (encs ks) ∧ st.env 77 = .int .i64 ks.length ∧ st.env 78 = .int .i64 i ∧ st.H = H ∧
      st.L[0]? = some (.box [.lst fd (encD ds)]) ∧ st.L[1]? = some (.box [.int .u8 11, .str nm, .bool ng, .lst df (dig dg), .lst kf (encs ks)]) ∧ st.L[2]? = some (.box b2) ∧ b2.length = 6 ∧ st.L[3]? = some (.box [b3]) ∧ st.L[4]? = some (.box [.lst fd (encD ds), .int .u8 11, .str nm, .bool ng, .lst df (dig dg), .lst kf (encs ks), row]) ∧ RowK H.length st.L row l)
    (fun x st => st.env 6 = .ptr H.length 2 0 ∧ st.env 7 = .ptr H.length 3 0 ∧ st.H = H ∧ ((x = .exit 4 ∧ ∃ l row b2 b3, evalsS ds bs ks = .ok l ∧ st.env 5 = .ptr H.length 1 0 ∧ st.env 10 = .ptr H.length 4 0 ∧ st.L[1]? = some (.box [.int .u8 11, .str nm, .bool ng, .lst df (dig dg), .lst kf (encs ks)]) ∧ st.L[2]? = some (.box b2) ∧ b2.length = 6 ∧ st.L[3]? = some (.box [b3]) ∧ st.L[4]? = some (.box [.lst fd (encD ds), .int .u8 11, .str nm, .bool ng, .lst df (dig dg), .lst kf (encs ks), row]) ∧ RowK H.length st.L row l) ∨
      (x = .ret ∧ ∃ e : Nat, evalsS ds bs ks = .error e ∧ st.L[2]? = some (.box [.int .u8 0, .bool false, .lst true [], .bool false, .str bNil, .lst true []]) ∧ st.L[3]? = some (.box [.int .i64 e]))))
    ⟨[], .lst true [], _, _, by simp [evalsS], by simp, by simp, by simp, by simp, by simp, by simp, by simp, by simp, by simp, by simp, by simp, by simp, by simp; rfl, rfl, by simp; rfl, by simp, .inl ⟨rfl, rfl⟩⟩ (by
      rintro i ⟨e, L, H'⟩ hi ⟨l, row, b2, b3, hl, h1, h3, h5, h6, h7, h10, h76, h77, h78, hHH, hL0, hL1, hL2, hb2, hL3, hL4, hrow⟩
      simp only [] at h1 h3 h5 h6 h7 h10 h76 h77 h78 hHH hL0 hL1 hL2 hL3 hL4 hrow
      subst hHH
      obtain ⟨t, ht⟩ : ∃ t, ks[i]? = some t := ⟨_, List.getElem?_eq_getElem hi⟩
      have hc := ih t (List.mem_of_getElem? ht)
      have hw2 := i64w (n := (i : Int) + 1) (by omega) (by omega)
      have hil : i < ks.length := hi
      have hll := evals_len hl
      rw [List.length_take, Nat.min_eq_left (by omega)] at hll
      obtain ⟨a0, a1, a2, a3, a4, a5, rfl⟩ := six b2 hb2
      have l2 := (List.getElem?_eq_some_iff.1 hL2).1
      have l3 := (List.getElem?_eq_some_iff.1 hL3).1
      have l4 := (List.getElem?_eq_some_iff.1 hL4).1
      obtain ⟨tf, td, te⟩ : ∃ tf td, t.enc = .agg [.int .u8 t.k, .str t.nm, .bool t.ng, .lst tf (dig td), .lst t.kf (encs t.ks)] := by cases t; exact ⟨_, _, rfl⟩
      rw [te] at hc
      obtain ⟨q, hq⟩ : ∃ q, evalS ds bs t = q := ⟨_, rfl⟩
      rw [hq] at hc
      cases q with
      | error e' =>
        have he' := eval_err t hq
        have hne : ¬ e' = 0 := by omega
        simp only [resP, zero0_enc] at hc
        have her := evals_err ht hl hq
        simp [-getElem?_pos, h1, h3, h5, h6, h7, h10, h76, h77, h78, ht, te, hi, hc, hw2, app_old hL0, app_old hL1, app_old hL2, app_old hL3, app_old hL4, hne]
        refine ⟨e', her, ?_, ?_⟩
        · rw [List.getElem?_set_self (by simp; omega)]
        · rw [List.getElem?_set_self (by simp; omega)]
      | ok v =>
        have htk := evals_take ht hl hq
        simp only [resP] at hc
        have ve : v.enc = .agg [.int .u8 v.k, .bool v.ng, .lst v.df (dig v.ds), .bool v.tr, .str v.nm, .lst v.ff (encVs v.fs)] := by cases v; rfl
        rw [ve] at hc
        rcases hrow with ⟨rfl, rfl⟩ | ⟨hne, kk, hk5, rfl, hkk⟩
        · simp [-getElem?_pos, h1, h3, h5, h6, h7, h10, h76, h77, h78, ht, te, hi, hc, hw2, app_old hL0, app_old hL1, app_old hL2, app_old hL3, app_old hL4, lim]
          refine ⟨[v], by simpa using htk, .own H'.length (L.length + 3) 1 6, ?_, ?_⟩
          · rw [List.getElem?_set_self (by simp; omega)]
          · refine .inr ⟨by simp, L.length + 3, by omega, by simp, ?_⟩
            rw [List.getElem?_set_ne (by omega)]
            simp [encVs, ve]
        · have hkl := (List.getElem?_eq_some_iff.1 hkk).1
          have hk4 : kk ≠ 4 := by omega
          have hk0 : kk ≠ 0 := by omega
          have hk1 : kk ≠ 1 := by omega
          have hk2 : kk ≠ 2 := by omega
          have hk3 : kk ≠ 3 := by omega
          have hlm : (l.length + 1) * 88 ≤ lim := by unfold lim; omega
          simp [-getElem?_pos, h1, h3, h5, h6, h7, h10, h76, h77, h78, ht, te, hi, hc, hw2, app_old hL0, app_old hL1, app_old hL2, app_old hL3, app_old hL4, app_old hkk, hlm, List.getElem?_set_ne, hk4, hk3, hk2]
          refine ⟨l ++ [v], htk, ?_, ?_, .own H'.length kk (l.length + 1) 6, ?_, ?_⟩
          · rw [List.getElem?_set_ne hk0]; exact app_old hL0
          · rw [List.getElem?_set_ne hk1]; exact app_old hL1
          · rw [List.getElem?_set_self (by simp; omega)]
          · refine .inr ⟨by simp, kk, hk5, by simp, ?_⟩
            rw [List.getElem?_set_ne (by omega), List.getElem?_set_self (by simp; omega)]
            simp [encVs_map, ve]) (by
      rintro ⟨e, L, H'⟩ ⟨l, row, b2, b3, hl, h1, h3, h5, h6, h7, h10, h76, h77, h78, hHH, hL0, hL1, hL2, hb2, hL3, hL4, hrow⟩
      simp only [] at h1 h3 h5 h6 h7 h10 h76 h77 h78 hHH hL0 hL1 hL2 hL3 hL4 hrow
      rw [List.take_length] at hl
      simp [-getElem?_pos, h1, h3, h5, h6, h7, h10, h76, h77, h78, hHH]
      exact ⟨l, hl, hL1, row, b2, hL2, hb2, ⟨b3, hL3⟩, hL4, hrow⟩)
  obtain ⟨h6, h7, hHH, hx⟩ := hx
  rcases hx with ⟨rfl, l, row, b2, b3, hl, h5, h10, hL1, hL2, hb2, hL3, hL4, hrow⟩ | ⟨rfl, e, he, hL2, hL3⟩
  · have hgl := hgood l hl
    rw [hl] at hr
    have hmo : manyOk none ks.length = true := rfl
    obtain ⟨u, ok, hmc, hrel⟩ := meth hmo l hl hgl
    have ue : u.enc = .agg [.int .u8 u.k, .bool u.ng, .lst u.df (dig u.ds), .bool u.tr, .str u.nm, .lst u.ff (encVs u.fs)] := by cases u; rfl
    rw [ue] at hmc
    simp only [hmo, Bool.true_eq_false, if_false, hrel] at hr
    obtain ⟨a0, a1, a2, a3, a4, a5, rfl⟩ := six b2 hb2
    have l2 := (List.getElem?_eq_some_iff.1 hL2).1
    have l3 := (List.getElem?_eq_some_iff.1 hL3).1
    have l4 := (List.getElem?_eq_some_iff.1 hL4).1
    have q2 : ∀ X b, ((s'.L ++ X).set 2 b)[2]? = some b := fun X b => List.getElem?_set_self (by simp; omega)
    have q3 : ∀ X b c, (((s'.L ++ X).set 2 b).set 3 c)[3]? = some c := fun X b c => List.getElem?_set_self (by simp; omega)
    have q4 : ∀ X b, ((s'.L ++ X).set 2 b)[3]? = some (.box [b3]) := fun X b => by rw [List.getElem?_set_ne (by omega)]; exact app_old hL3
    rcases hrow with ⟨rfl, rfl⟩ | ⟨hne, kk, hk5, rfl, hkk⟩
    · have hmc := hmc true
      simp only [encVs] at hmc
      cases ok with
      | true =>
        simp only [if_true, resP, ue] at hr
        simp [-getElem?_pos, h5, h6, h7, h10, hHH, hL1, hL2, hL3, hL4, app_old hL1, app_old hL2, app_old hL3, app_old hL4, hmc, ← hr, hH, q2, q3, q4]
      | false =>
        simp only [if_false, resP, zero0_enc, Bool.false_eq_true] at hr
        simp [-getElem?_pos, h5, h6, h7, h10, hHH, hL1, hL2, hL3, hL4, app_old hL1, app_old hL2, app_old hL3, app_old hL4, hmc, ← hr, hH, q2, q3, q4]
    · have hmc := hmc false
      have hk4 : kk ≠ 4 := by omega
      have hk1 : kk ≠ 1 := by omega
      have hk2 : kk ≠ 2 := by omega
      have hk3 : kk ≠ 3 := by omega
      have p2 : ∀ m b X c, (((s'.L ++ [m]).set kk b ++ X).set 2 c)[2]? = some c := fun m b X c => List.getElem?_set_self (by simp; omega)
      have p3 : ∀ m b X c d, ((((s'.L ++ [m]).set kk b ++ X).set 2 c).set 3 d)[3]? = some d := fun m b X c d => List.getElem?_set_self (by simp; omega)
      have r2 : ∀ m b X, ((s'.L ++ [m]).set kk b ++ X)[2]? = some (.box [a0, a1, a2, a3, a4, a5]) := fun m b X => app_old (by rw [List.getElem?_set_ne hk2]; exact app_old hL2)
      have r3 : ∀ m b X, ((s'.L ++ [m]).set kk b ++ X)[3]? = some (.box [b3]) := fun m b X => app_old (by rw [List.getElem?_set_ne hk3]; exact app_old hL3)
      have p4 : ∀ m b X c, (((s'.L ++ [m]).set kk b ++ X).set 2 c)[3]? = some (.box [b3]) := fun m b X c => by rw [List.getElem?_set_ne (by omega)]; exact r3 m b X
      have r4 : ∀ m b X, ((s'.L ++ [m]).set kk b ++ X)[s'.L.length + 1]? = X[0]? := fun m b X => by rw [List.getElem?_append_right (by simp)]; simp
      have r5 : ∀ m b X Y, ((s'.L ++ [m]).set kk b ++ X).set (s'.L.length + 1) Y = (s'.L ++ [m]).set kk b ++ X.set 0 Y := fun m b X Y => by rw [List.set_append_right _ _ (by simp)]; simp
      have r6 : ∀ m b, ((s'.L ++ [m]).set kk b).length = s'.L.length + 1 := fun m b => by simp
      cases ok with
      | true =>
        simp only [if_true, resP, ue] at hr
        simp [-getElem?_pos, h5, h6, h7, h10, hHH, hL1, hL2, hL3, hL4, app_old hL1, app_old hL2, app_old hL3, app_old hL4, hmc, app_old hkk, ← hr, hH, r2, r3, r4, r5, r6, p2, p3, p4]
      | false =>
        simp only [if_false, resP, zero0_enc, Bool.false_eq_true] at hr
        simp [-getElem?_pos, h5, h6, h7, h10, hHH, hL1, hL2, hL3, hL4, app_old hL1, app_old hL2, app_old hL3, app_old hL4, hmc, app_old hkk, ← hr, hH, r2, r3, r4, r5, r6, p2, p3, p4]
  · rw [he] at hr
    have hne : manyOk none ks.length = true := rfl
    simp only [hne, Bool.true_eq_false, if_false, resP, zero0_enc] at hr
    simp [-getElem?_pos, h6, h7, hHH, hL2, hL3, hH, ← hr]

theorem Eval12_call (M : Nat) (hM : M < 10000000) {wl : Nat} (fd : Bool) (ds : List Dt) (fb : Bool) (bs : List Bd) (nm : ByteArray) (ng df : Bool) (dg : List Nat) (kf : Bool) (ks : List Tm)
    (hds : okD ds) (hks : ks.length < 1000000000)
    (hgood : ∀ l, evalsS ds bs ks = .ok l → (∀ v ∈ l, goodV ds M v) ∧ (digsOf (absV l)).length ≤ M)
    (H : Heap) (hH : 0 < H.length)
    (meth : manyOk none ks.length = true → ∀ l, evalsS ds bs ks = .ok l → ((∀ v ∈ l, goodV ds M v) ∧ (digsOf (absV l)).length ≤ M) → ∃ (u : Vl) (ok : Bool), (∀ (lf : Bool) (w2 : Nat) (L1 : List Blk), E.call 51 w2 [.agg [.lst fd (encD ds), .int .u8 12, .str nm, .bool ng, .lst df (dig dg), .lst kf (encs ks), .lst lf (encVs l)]] (L1 :: H) = some (.ret (.tup [u.enc, .bool ok]), L1 :: H)) ∧ kindEval ds 12 nm ng dg l = if ok then some u else none)
    (ih : ∀ t ∈ ks, ∀ L1 : List Blk, E.call 16 wl [.lst fd (encD ds), .lst fb (encB bs), t.enc] (L1 :: H) = some (.ret (resP (evalS ds bs t)), L1 :: H)) :
    E.call 16 wl [.lst fd (encD ds), .lst fb (encB bs), (Tm.mk 12 nm ng df dg kf ks).enc] H = some (.ret (resP (kRes ds bs none 12 nm ng dg ks)), H) := by
  refine (E_call Try.func16 rfl rfl (by kernel_rfl) rfl _ (by exact Nat.le_of_ble_eq_true rfl) H).trans ?_
  obtain ⟨r, hr⟩ : ∃ r, resP (kRes ds bs none 12 nm ng dg ks) = r := ⟨_, rfl⟩
  rw [hr]
  unfold kRes at hr
  simp only [Tm.enc]
  simp [Try.f16]
  generalize hz : run tab E wl (Code.loop _) _ = z
  obtain ⟨x, s', rfl, hx⟩ := loop_up (fun c s => E_loop) hz ks.length (fun i st => ∃ l row b2 b3, evalsS ds bs (ks.take i) = .ok l ∧ st.env 1 = .lst fb (encB bs) ∧ st.env 3 = .ptr H.length 0 0 ∧ st.env 5 = .ptr H.length 1 0 ∧ st.env 6 = .ptr H.length 2 0 ∧ st.env 7 = .ptr H.length 3 0 ∧ st.env 10 = .ptr H.length 4 0 ∧ st.env 76 = .lst kf (encs ks) ∧ st.env 77 = .int .i64 ks.length ∧ st.env 78 = .int .i64 i ∧ st.H = H ∧
      st.L[0]? = some (.box [.lst fd (encD ds)]) ∧ st.L[1]? = some (.box [.int .u8 12, .str nm, .bool ng, .lst df (dig dg), .lst kf (encs ks)]) ∧ st.L[2]? = some (.box b2) ∧ b2.length = 6 ∧ st.L[3]? = some (.box [b3]) ∧ st.L[4]? = some (.box [.lst fd (encD ds), .int .u8 12, .str nm, .bool ng, .lst df (dig dg), .lst kf (encs ks), row]) ∧ RowK H.length st.L row l)
    (fun x st => st.env 6 = .ptr H.length 2 0 ∧ st.env 7 = .ptr H.length 3 0 ∧ st.H = H ∧ ((x = .exit 4 ∧ ∃ l row b2 b3, evalsS ds bs ks = .ok l ∧ st.env 5 = .ptr H.length 1 0 ∧ st.env 10 = .ptr H.length 4 0 ∧ st.L[1]? = some (.box [.int .u8 12, .str nm, .bool ng, .lst df (dig dg), .lst kf (encs ks)]) ∧ st.L[2]? = some (.box b2) ∧ b2.length = 6 ∧ st.L[3]? = some (.box [b3]) ∧ st.L[4]? = some (.box [.lst fd (encD ds), .int .u8 12, .str nm, .bool ng, .lst df (dig dg), .lst kf (encs ks), row]) ∧ RowK H.length st.L row l) ∨
      (x = .ret ∧ ∃ e : Nat, evalsS ds bs ks = .error e ∧ st.L[2]? = some (.box [.int .u8 0, .bool false, .lst true [], .bool false, .str bNil, .lst true []]) ∧ st.L[3]? = some (.box [.int .i64 e]))))
    ⟨[], .lst true [], _, _, by simp [evalsS], by simp, by simp, by simp, by simp, by simp, by simp, by simp, by simp, by simp, by simp, by simp, by simp, by simp; rfl, rfl, by simp; rfl, by simp, .inl ⟨rfl, rfl⟩⟩ (by
      rintro i ⟨e, L, H'⟩ hi ⟨l, row, b2, b3, hl, h1, h3, h5, h6, h7, h10, h76, h77, h78, hHH, hL0, hL1, hL2, hb2, hL3, hL4, hrow⟩
      simp only [] at h1 h3 h5 h6 h7 h10 h76 h77 h78 hHH hL0 hL1 hL2 hL3 hL4 hrow
      subst hHH
      obtain ⟨t, ht⟩ : ∃ t, ks[i]? = some t := ⟨_, List.getElem?_eq_getElem hi⟩
      have hc := ih t (List.mem_of_getElem? ht)
      have hw2 := i64w (n := (i : Int) + 1) (by omega) (by omega)
      have hil : i < ks.length := hi
      have hll := evals_len hl
      rw [List.length_take, Nat.min_eq_left (by omega)] at hll
      obtain ⟨a0, a1, a2, a3, a4, a5, rfl⟩ := six b2 hb2
      have l2 := (List.getElem?_eq_some_iff.1 hL2).1
      have l3 := (List.getElem?_eq_some_iff.1 hL3).1
      have l4 := (List.getElem?_eq_some_iff.1 hL4).1
      obtain ⟨tf, td, te⟩ : ∃ tf td, t.enc = .agg [.int .u8 t.k, .str t.nm, .bool t.ng, .lst tf (dig td), .lst t.kf (encs t.ks)] := by cases t; exact ⟨_, _, rfl⟩
      rw [te] at hc
      obtain ⟨q, hq⟩ : ∃ q, evalS ds bs t = q := ⟨_, rfl⟩
      rw [hq] at hc
      cases q with
      | error e' =>
        have he' := eval_err t hq
        have hne : ¬ e' = 0 := by omega
        simp only [resP, zero0_enc] at hc
        have her := evals_err ht hl hq
        simp [-getElem?_pos, h1, h3, h5, h6, h7, h10, h76, h77, h78, ht, te, hi, hc, hw2, app_old hL0, app_old hL1, app_old hL2, app_old hL3, app_old hL4, hne]
        refine ⟨e', her, ?_, ?_⟩
        · rw [List.getElem?_set_self (by simp; omega)]
        · rw [List.getElem?_set_self (by simp; omega)]
      | ok v =>
        have htk := evals_take ht hl hq
        simp only [resP] at hc
        have ve : v.enc = .agg [.int .u8 v.k, .bool v.ng, .lst v.df (dig v.ds), .bool v.tr, .str v.nm, .lst v.ff (encVs v.fs)] := by cases v; rfl
        rw [ve] at hc
        rcases hrow with ⟨rfl, rfl⟩ | ⟨hne, kk, hk5, rfl, hkk⟩
        · simp [-getElem?_pos, h1, h3, h5, h6, h7, h10, h76, h77, h78, ht, te, hi, hc, hw2, app_old hL0, app_old hL1, app_old hL2, app_old hL3, app_old hL4, lim]
          refine ⟨[v], by simpa using htk, .own H'.length (L.length + 3) 1 6, ?_, ?_⟩
          · rw [List.getElem?_set_self (by simp; omega)]
          · refine .inr ⟨by simp, L.length + 3, by omega, by simp, ?_⟩
            rw [List.getElem?_set_ne (by omega)]
            simp [encVs, ve]
        · have hkl := (List.getElem?_eq_some_iff.1 hkk).1
          have hk4 : kk ≠ 4 := by omega
          have hk0 : kk ≠ 0 := by omega
          have hk1 : kk ≠ 1 := by omega
          have hk2 : kk ≠ 2 := by omega
          have hk3 : kk ≠ 3 := by omega
          have hlm : (l.length + 1) * 88 ≤ lim := by unfold lim; omega
          simp [-getElem?_pos, h1, h3, h5, h6, h7, h10, h76, h77, h78, ht, te, hi, hc, hw2, app_old hL0, app_old hL1, app_old hL2, app_old hL3, app_old hL4, app_old hkk, hlm, List.getElem?_set_ne, hk4, hk3, hk2]
          refine ⟨l ++ [v], htk, ?_, ?_, .own H'.length kk (l.length + 1) 6, ?_, ?_⟩
          · rw [List.getElem?_set_ne hk0]; exact app_old hL0
          · rw [List.getElem?_set_ne hk1]; exact app_old hL1
          · rw [List.getElem?_set_self (by simp; omega)]
          · refine .inr ⟨by simp, kk, hk5, by simp, ?_⟩
            rw [List.getElem?_set_ne (by omega), List.getElem?_set_self (by simp; omega)]
            simp [encVs_map, ve]) (by
      rintro ⟨e, L, H'⟩ ⟨l, row, b2, b3, hl, h1, h3, h5, h6, h7, h10, h76, h77, h78, hHH, hL0, hL1, hL2, hb2, hL3, hL4, hrow⟩
      simp only [] at h1 h3 h5 h6 h7 h10 h76 h77 h78 hHH hL0 hL1 hL2 hL3 hL4 hrow
      rw [List.take_length] at hl
      simp [-getElem?_pos, h1, h3, h5, h6, h7, h10, h76, h77, h78, hHH]
      exact ⟨l, hl, hL1, row, b2, hL2, hb2, ⟨b3, hL3⟩, hL4, hrow⟩)
  obtain ⟨h6, h7, hHH, hx⟩ := hx
  rcases hx with ⟨rfl, l, row, b2, b3, hl, h5, h10, hL1, hL2, hb2, hL3, hL4, hrow⟩ | ⟨rfl, e, he, hL2, hL3⟩
  · have hgl := hgood l hl
    rw [hl] at hr
    have hmo : manyOk none ks.length = true := rfl
    obtain ⟨u, ok, hmc, hrel⟩ := meth hmo l hl hgl
    have ue : u.enc = .agg [.int .u8 u.k, .bool u.ng, .lst u.df (dig u.ds), .bool u.tr, .str u.nm, .lst u.ff (encVs u.fs)] := by cases u; rfl
    rw [ue] at hmc
    simp only [hmo, Bool.true_eq_false, if_false, hrel] at hr
    obtain ⟨a0, a1, a2, a3, a4, a5, rfl⟩ := six b2 hb2
    have l2 := (List.getElem?_eq_some_iff.1 hL2).1
    have l3 := (List.getElem?_eq_some_iff.1 hL3).1
    have l4 := (List.getElem?_eq_some_iff.1 hL4).1
    have q2 : ∀ X b, ((s'.L ++ X).set 2 b)[2]? = some b := fun X b => List.getElem?_set_self (by simp; omega)
    have q3 : ∀ X b c, (((s'.L ++ X).set 2 b).set 3 c)[3]? = some c := fun X b c => List.getElem?_set_self (by simp; omega)
    have q4 : ∀ X b, ((s'.L ++ X).set 2 b)[3]? = some (.box [b3]) := fun X b => by rw [List.getElem?_set_ne (by omega)]; exact app_old hL3
    rcases hrow with ⟨rfl, rfl⟩ | ⟨hne, kk, hk5, rfl, hkk⟩
    · have hmc := hmc true
      simp only [encVs] at hmc
      cases ok with
      | true =>
        simp only [if_true, resP, ue] at hr
        simp [-getElem?_pos, h5, h6, h7, h10, hHH, hL1, hL2, hL3, hL4, app_old hL1, app_old hL2, app_old hL3, app_old hL4, hmc, ← hr, hH, q2, q3, q4]
      | false =>
        simp only [if_false, resP, zero0_enc, Bool.false_eq_true] at hr
        simp [-getElem?_pos, h5, h6, h7, h10, hHH, hL1, hL2, hL3, hL4, app_old hL1, app_old hL2, app_old hL3, app_old hL4, hmc, ← hr, hH, q2, q3, q4]
    · have hmc := hmc false
      have hk4 : kk ≠ 4 := by omega
      have hk1 : kk ≠ 1 := by omega
      have hk2 : kk ≠ 2 := by omega
      have hk3 : kk ≠ 3 := by omega
      have p2 : ∀ m b X c, (((s'.L ++ [m]).set kk b ++ X).set 2 c)[2]? = some c := fun m b X c => List.getElem?_set_self (by simp; omega)
      have p3 : ∀ m b X c d, ((((s'.L ++ [m]).set kk b ++ X).set 2 c).set 3 d)[3]? = some d := fun m b X c d => List.getElem?_set_self (by simp; omega)
      have r2 : ∀ m b X, ((s'.L ++ [m]).set kk b ++ X)[2]? = some (.box [a0, a1, a2, a3, a4, a5]) := fun m b X => app_old (by rw [List.getElem?_set_ne hk2]; exact app_old hL2)
      have r3 : ∀ m b X, ((s'.L ++ [m]).set kk b ++ X)[3]? = some (.box [b3]) := fun m b X => app_old (by rw [List.getElem?_set_ne hk3]; exact app_old hL3)
      have p4 : ∀ m b X c, (((s'.L ++ [m]).set kk b ++ X).set 2 c)[3]? = some (.box [b3]) := fun m b X c => by rw [List.getElem?_set_ne (by omega)]; exact r3 m b X
      have r4 : ∀ m b X, ((s'.L ++ [m]).set kk b ++ X)[s'.L.length + 1]? = X[0]? := fun m b X => by rw [List.getElem?_append_right (by simp)]; simp
      have r5 : ∀ m b X Y, ((s'.L ++ [m]).set kk b ++ X).set (s'.L.length + 1) Y = (s'.L ++ [m]).set kk b ++ X.set 0 Y := fun m b X Y => by rw [List.set_append_right _ _ (by simp)]; simp
      have r6 : ∀ m b, ((s'.L ++ [m]).set kk b).length = s'.L.length + 1 := fun m b => by simp
      cases ok with
      | true =>
        simp only [if_true, resP, ue] at hr
        simp [-getElem?_pos, h5, h6, h7, h10, hHH, hL1, hL2, hL3, hL4, app_old hL1, app_old hL2, app_old hL3, app_old hL4, hmc, app_old hkk, ← hr, hH, r2, r3, r4, r5, r6, p2, p3, p4]
      | false =>
        simp only [if_false, resP, zero0_enc, Bool.false_eq_true] at hr
        simp [-getElem?_pos, h5, h6, h7, h10, hHH, hL1, hL2, hL3, hL4, app_old hL1, app_old hL2, app_old hL3, app_old hL4, hmc, app_old hkk, ← hr, hH, r2, r3, r4, r5, r6, p2, p3, p4]
  · rw [he] at hr
    have hne : manyOk none ks.length = true := rfl
    simp only [hne, Bool.true_eq_false, if_false, resP, zero0_enc] at hr
    simp [-getElem?_pos, h6, h7, hHH, hL2, hL3, hH, ← hr]

theorem Eval13_call (M : Nat) (hM : M < 10000000) {wl : Nat} (fd : Bool) (ds : List Dt) (fb : Bool) (bs : List Bd) (nm : ByteArray) (ng df : Bool) (dg : List Nat) (kf : Bool) (ks : List Tm)
    (hds : okD ds) (hks : ks.length < 1000000000)
    (hgood : ∀ l, evalsS ds bs ks = .ok l → (∀ v ∈ l, goodV ds M v) ∧ (digsOf (absV l)).length ≤ M)
    (H : Heap) (hH : 0 < H.length)
    (meth : manyOk (some 2) ks.length = true → ∀ l, evalsS ds bs ks = .ok l → ((∀ v ∈ l, goodV ds M v) ∧ (digsOf (absV l)).length ≤ M) → ∃ (u : Vl) (ok : Bool), (∀ (lf : Bool) (w2 : Nat) (L1 : List Blk), E.call 49 w2 [.agg [.lst fd (encD ds), .int .u8 13, .str nm, .bool ng, .lst df (dig dg), .lst kf (encs ks), .lst lf (encVs l)]] (L1 :: H) = some (.ret (.tup [u.enc, .bool ok]), L1 :: H)) ∧ kindEval ds 13 nm ng dg l = if ok then some u else none)
    (ih : ∀ t ∈ ks, ∀ L1 : List Blk, E.call 16 wl [.lst fd (encD ds), .lst fb (encB bs), t.enc] (L1 :: H) = some (.ret (resP (evalS ds bs t)), L1 :: H)) :
    E.call 16 wl [.lst fd (encD ds), .lst fb (encB bs), (Tm.mk 13 nm ng df dg kf ks).enc] H = some (.ret (resP (kRes ds bs (some 2) 13 nm ng dg ks)), H) := by
  refine (E_call Try.func16 rfl rfl (by kernel_rfl) rfl _ (by exact Nat.le_of_ble_eq_true rfl) H).trans ?_
  obtain ⟨r, hr⟩ : ∃ r, resP (kRes ds bs (some 2) 13 nm ng dg ks) = r := ⟨_, rfl⟩
  rw [hr]
  unfold kRes at hr
  simp only [Tm.enc]
  by_cases hlen : 2 = ks.length
  case neg =>
    have hmo : manyOk (some 2) ks.length = false := by simp [manyOk, hlen]
    rw [hmo] at hr
    simp only [if_true, resP, zero0_enc] at hr
    have hl2 : ((ks.length : Int) == 2) = false := by rw [beq_eq_false_iff_ne]; omega
    have hl3 : ¬ (ks.length : Int) = 2 := by omega
    have hl4 : ¬ ks.length = 2 := by omega
    simp [Try.f16, ← hr, hH, hl2, hl3, hl4]
    done
  have hl2 : ((ks.length : Int) == 2) = true := by rw [beq_iff_eq]; omega
  simp [Try.f16, hl2]
  first | rw [if_pos (show ks = [] from List.eq_nil_of_length_eq_zero hlen.symm)] | rw [if_pos (show (ks.length : Int) = 2 by omega)]
  generalize hz : run tab E wl (Code.loop _) _ = z
  obtain ⟨x, s', rfl, hx⟩ := loop_up (fun c s => E_loop) hz ks.length (fun i st => ∃ l row b2 b3, evalsS ds bs (ks.take i) = .ok l ∧ st.env 1 = .lst fb (encB bs) ∧ st.env 3 = .ptr H.length 0 0 ∧ st.env 5 = .ptr H.length 1 0 ∧ st.env 6 = .ptr H.length 2 0 ∧ st.env 7 = .ptr H.length 3 0 ∧ st.env 10 = .ptr H.length 4 0 ∧ st.env 76 = .lst kf (encs ks) ∧ st.env 77 = .int .i64 ks.length ∧ st.env 78 = .int .i64 i ∧ st.H = H ∧
      st.L[0]? = some (.box [.lst fd (encD ds)]) ∧ st.L[1]? = some (.box [.int .u8 13, .str nm, .bool ng, .lst df (dig dg), .lst kf (encs ks)]) ∧ st.L[2]? = some (.box b2) ∧ b2.length = 6 ∧ st.L[3]? = some (.box [b3]) ∧ st.L[4]? = some (.box [.lst fd (encD ds), .int .u8 13, .str nm, .bool ng, .lst df (dig dg), .lst kf (encs ks), row]) ∧ RowK H.length st.L row l)
    (fun x st => st.env 6 = .ptr H.length 2 0 ∧ st.env 7 = .ptr H.length 3 0 ∧ st.H = H ∧ ((x = .exit 4 ∧ ∃ l row b2 b3, evalsS ds bs ks = .ok l ∧ st.env 5 = .ptr H.length 1 0 ∧ st.env 10 = .ptr H.length 4 0 ∧ st.L[1]? = some (.box [.int .u8 13, .str nm, .bool ng, .lst df (dig dg), .lst kf (encs ks)]) ∧ st.L[2]? = some (.box b2) ∧ b2.length = 6 ∧ st.L[3]? = some (.box [b3]) ∧ st.L[4]? = some (.box [.lst fd (encD ds), .int .u8 13, .str nm, .bool ng, .lst df (dig dg), .lst kf (encs ks), row]) ∧ RowK H.length st.L row l) ∨
      (x = .ret ∧ ∃ e : Nat, evalsS ds bs ks = .error e ∧ st.L[2]? = some (.box [.int .u8 0, .bool false, .lst true [], .bool false, .str bNil, .lst true []]) ∧ st.L[3]? = some (.box [.int .i64 e]))))
    ⟨[], .lst true [], _, _, by simp [evalsS], by simp, by simp, by simp, by simp, by simp, by simp, by simp, by simp, by simp, by simp, by simp, by simp, by simp; rfl, rfl, by simp; rfl, by simp, .inl ⟨rfl, rfl⟩⟩ (by
      rintro i ⟨e, L, H'⟩ hi ⟨l, row, b2, b3, hl, h1, h3, h5, h6, h7, h10, h76, h77, h78, hHH, hL0, hL1, hL2, hb2, hL3, hL4, hrow⟩
      simp only [] at h1 h3 h5 h6 h7 h10 h76 h77 h78 hHH hL0 hL1 hL2 hL3 hL4 hrow
      subst hHH
      obtain ⟨t, ht⟩ : ∃ t, ks[i]? = some t := ⟨_, List.getElem?_eq_getElem hi⟩
      have hc := ih t (List.mem_of_getElem? ht)
      have hw2 := i64w (n := (i : Int) + 1) (by omega) (by omega)
      have hil : i < ks.length := hi
      have hll := evals_len hl
      rw [List.length_take, Nat.min_eq_left (by omega)] at hll
      obtain ⟨a0, a1, a2, a3, a4, a5, rfl⟩ := six b2 hb2
      have l2 := (List.getElem?_eq_some_iff.1 hL2).1
      have l3 := (List.getElem?_eq_some_iff.1 hL3).1
      have l4 := (List.getElem?_eq_some_iff.1 hL4).1
      obtain ⟨tf, td, te⟩ : ∃ tf td, t.enc = .agg [.int .u8 t.k, .str t.nm, .bool t.ng, .lst tf (dig td), .lst t.kf (encs t.ks)] := by cases t; exact ⟨_, _, rfl⟩
      rw [te] at hc
      obtain ⟨q, hq⟩ : ∃ q, evalS ds bs t = q := ⟨_, rfl⟩
      rw [hq] at hc
      cases q with
      | error e' =>
        have he' := eval_err t hq
        have hne : ¬ e' = 0 := by omega
        simp only [resP, zero0_enc] at hc
        have her := evals_err ht hl hq
        simp [-getElem?_pos, h1, h3, h5, h6, h7, h10, h76, h77, h78, ht, te, hi, hc, hw2, app_old hL0, app_old hL1, app_old hL2, app_old hL3, app_old hL4, hne]
        refine ⟨e', her, ?_, ?_⟩
        · rw [List.getElem?_set_self (by simp; omega)]
        · rw [List.getElem?_set_self (by simp; omega)]
      | ok v =>
        have htk := evals_take ht hl hq
        simp only [resP] at hc
        have ve : v.enc = .agg [.int .u8 v.k, .bool v.ng, .lst v.df (dig v.ds), .bool v.tr, .str v.nm, .lst v.ff (encVs v.fs)] := by cases v; rfl
        rw [ve] at hc
        rcases hrow with ⟨rfl, rfl⟩ | ⟨hne, kk, hk5, rfl, hkk⟩
        · simp [-getElem?_pos, h1, h3, h5, h6, h7, h10, h76, h77, h78, ht, te, hi, hc, hw2, app_old hL0, app_old hL1, app_old hL2, app_old hL3, app_old hL4, lim]
          refine ⟨[v], by simpa using htk, .own H'.length (L.length + 3) 1 6, ?_, ?_⟩
          · rw [List.getElem?_set_self (by simp; omega)]
          · refine .inr ⟨by simp, L.length + 3, by omega, by simp, ?_⟩
            rw [List.getElem?_set_ne (by omega)]
            simp [encVs, ve]
        · have hkl := (List.getElem?_eq_some_iff.1 hkk).1
          have hk4 : kk ≠ 4 := by omega
          have hk0 : kk ≠ 0 := by omega
          have hk1 : kk ≠ 1 := by omega
          have hk2 : kk ≠ 2 := by omega
          have hk3 : kk ≠ 3 := by omega
          have hlm : (l.length + 1) * 88 ≤ lim := by unfold lim; omega
          simp [-getElem?_pos, h1, h3, h5, h6, h7, h10, h76, h77, h78, ht, te, hi, hc, hw2, app_old hL0, app_old hL1, app_old hL2, app_old hL3, app_old hL4, app_old hkk, hlm, List.getElem?_set_ne, hk4, hk3, hk2]
          refine ⟨l ++ [v], htk, ?_, ?_, .own H'.length kk (l.length + 1) 6, ?_, ?_⟩
          · rw [List.getElem?_set_ne hk0]; exact app_old hL0
          · rw [List.getElem?_set_ne hk1]; exact app_old hL1
          · rw [List.getElem?_set_self (by simp; omega)]
          · refine .inr ⟨by simp, kk, hk5, by simp, ?_⟩
            rw [List.getElem?_set_ne (by omega), List.getElem?_set_self (by simp; omega)]
            simp [encVs_map, ve]) (by
      rintro ⟨e, L, H'⟩ ⟨l, row, b2, b3, hl, h1, h3, h5, h6, h7, h10, h76, h77, h78, hHH, hL0, hL1, hL2, hb2, hL3, hL4, hrow⟩
      simp only [] at h1 h3 h5 h6 h7 h10 h76 h77 h78 hHH hL0 hL1 hL2 hL3 hL4 hrow
      rw [List.take_length] at hl
      simp [-getElem?_pos, h1, h3, h5, h6, h7, h10, h76, h77, h78, hHH]
      exact ⟨l, hl, hL1, row, b2, hL2, hb2, ⟨b3, hL3⟩, hL4, hrow⟩)
  obtain ⟨h6, h7, hHH, hx⟩ := hx
  rcases hx with ⟨rfl, l, row, b2, b3, hl, h5, h10, hL1, hL2, hb2, hL3, hL4, hrow⟩ | ⟨rfl, e, he, hL2, hL3⟩
  · have hgl := hgood l hl
    rw [hl] at hr
    have hmo : manyOk (some 2) ks.length = true := by simp [manyOk, ← hlen]
    obtain ⟨u, ok, hmc, hrel⟩ := meth hmo l hl hgl
    have ue : u.enc = .agg [.int .u8 u.k, .bool u.ng, .lst u.df (dig u.ds), .bool u.tr, .str u.nm, .lst u.ff (encVs u.fs)] := by cases u; rfl
    rw [ue] at hmc
    simp only [hmo, Bool.true_eq_false, if_false, hrel] at hr
    obtain ⟨a0, a1, a2, a3, a4, a5, rfl⟩ := six b2 hb2
    have l2 := (List.getElem?_eq_some_iff.1 hL2).1
    have l3 := (List.getElem?_eq_some_iff.1 hL3).1
    have l4 := (List.getElem?_eq_some_iff.1 hL4).1
    have q2 : ∀ X b, ((s'.L ++ X).set 2 b)[2]? = some b := fun X b => List.getElem?_set_self (by simp; omega)
    have q3 : ∀ X b c, (((s'.L ++ X).set 2 b).set 3 c)[3]? = some c := fun X b c => List.getElem?_set_self (by simp; omega)
    have q4 : ∀ X b, ((s'.L ++ X).set 2 b)[3]? = some (.box [b3]) := fun X b => by rw [List.getElem?_set_ne (by omega)]; exact app_old hL3
    rcases hrow with ⟨rfl, rfl⟩ | ⟨hne, kk, hk5, rfl, hkk⟩
    · have hmc := hmc true
      simp only [encVs] at hmc
      cases ok with
      | true =>
        simp only [if_true, resP, ue] at hr
        simp [-getElem?_pos, h5, h6, h7, h10, hHH, hL1, hL2, hL3, hL4, app_old hL1, app_old hL2, app_old hL3, app_old hL4, hmc, ← hr, hH, q2, q3, q4]
      | false =>
        simp only [if_false, resP, zero0_enc, Bool.false_eq_true] at hr
        simp [-getElem?_pos, h5, h6, h7, h10, hHH, hL1, hL2, hL3, hL4, app_old hL1, app_old hL2, app_old hL3, app_old hL4, hmc, ← hr, hH, q2, q3, q4]
    · have hmc := hmc false
      have hk4 : kk ≠ 4 := by omega
      have hk1 : kk ≠ 1 := by omega
      have hk2 : kk ≠ 2 := by omega
      have hk3 : kk ≠ 3 := by omega
      have p2 : ∀ m b X c, (((s'.L ++ [m]).set kk b ++ X).set 2 c)[2]? = some c := fun m b X c => List.getElem?_set_self (by simp; omega)
      have p3 : ∀ m b X c d, ((((s'.L ++ [m]).set kk b ++ X).set 2 c).set 3 d)[3]? = some d := fun m b X c d => List.getElem?_set_self (by simp; omega)
      have r2 : ∀ m b X, ((s'.L ++ [m]).set kk b ++ X)[2]? = some (.box [a0, a1, a2, a3, a4, a5]) := fun m b X => app_old (by rw [List.getElem?_set_ne hk2]; exact app_old hL2)
      have r3 : ∀ m b X, ((s'.L ++ [m]).set kk b ++ X)[3]? = some (.box [b3]) := fun m b X => app_old (by rw [List.getElem?_set_ne hk3]; exact app_old hL3)
      have p4 : ∀ m b X c, (((s'.L ++ [m]).set kk b ++ X).set 2 c)[3]? = some (.box [b3]) := fun m b X c => by rw [List.getElem?_set_ne (by omega)]; exact r3 m b X
      have r4 : ∀ m b X, ((s'.L ++ [m]).set kk b ++ X)[s'.L.length + 1]? = X[0]? := fun m b X => by rw [List.getElem?_append_right (by simp)]; simp
      have r5 : ∀ m b X Y, ((s'.L ++ [m]).set kk b ++ X).set (s'.L.length + 1) Y = (s'.L ++ [m]).set kk b ++ X.set 0 Y := fun m b X Y => by rw [List.set_append_right _ _ (by simp)]; simp
      have r6 : ∀ m b, ((s'.L ++ [m]).set kk b).length = s'.L.length + 1 := fun m b => by simp
      cases ok with
      | true =>
        simp only [if_true, resP, ue] at hr
        simp [-getElem?_pos, h5, h6, h7, h10, hHH, hL1, hL2, hL3, hL4, app_old hL1, app_old hL2, app_old hL3, app_old hL4, hmc, app_old hkk, ← hr, hH, r2, r3, r4, r5, r6, p2, p3, p4]
      | false =>
        simp only [if_false, resP, zero0_enc, Bool.false_eq_true] at hr
        simp [-getElem?_pos, h5, h6, h7, h10, hHH, hL1, hL2, hL3, hL4, app_old hL1, app_old hL2, app_old hL3, app_old hL4, hmc, app_old hkk, ← hr, hH, r2, r3, r4, r5, r6, p2, p3, p4]
  · rw [he] at hr
    have hne : manyOk (some 2) ks.length = true := by simp [manyOk, ← hlen]
    simp only [hne, Bool.true_eq_false, if_false, resP, zero0_enc] at hr
    simp [-getElem?_pos, h6, h7, hHH, hL2, hL3, hH, ← hr]

end Go.GL.Seat
