/-
  Walks, mM: small terms, values; what a term comes to as a truth (package whetstonelaw05).
  Walks, mN: the document's examples (package whetstonelaw05).
  Walks, mO: the law of truths and numbers.
-/
import Derived.Test.YtafgloejojikoaaMGl52
import Derived.Test.YtafgloejojikoaaMGl40
set_option linter.unusedSimpArgs false
set_option linter.unusedVariables false
/-! Walks, mM: small terms, values; what a term comes to as a truth (package whetstonelaw05). -/
namespace Go.GL.Seat
open Go.Proofs
set_option maxRecDepth 100000
set_option maxHeartbeats 8000000

abbrev bX : ByteArray := ⟨#[120]⟩
abbrev bN : ByteArray := ⟨#[110, 105, 108]⟩
abbrev bC : ByteArray := ⟨#[99, 111, 110, 115]⟩
abbrev bC0 : ByteArray := ⟨#[99, 111, 110, 115, 46, 48]⟩
abbrev bC1 : ByteArray := ⟨#[99, 111, 110, 115, 46, 49]⟩
abbrev bL : ByteArray := ⟨#[108, 105, 115, 116]⟩

theorem lmade_call {wl : Nat} (k : Nat) (f : Bool) (l : List Tm) (H : Heap) (hH : 0 < H.length) : E.call 15 wl [.int .u8 k, .lst f (encs l)] H = some (.ret (Tm.mk k bNil false true [] f l).enc, H) := by
  refine (E_call Try.func15 rfl rfl (by kernel_rfl) rfl _ (by exact Nat.le_of_ble_eq_true rfl) H).trans ?_
  simp [Try.f15, hH, Tm.enc, dig]
theorem lname_call {wl : Nat} (s : ByteArray) (H : Heap) (hH : 0 < H.length) : E.call 32 wl [.str s] H = some (.ret (Tm.mk 1 s false true [] true []).enc, H) := by
  refine (E_call Try.func32 rfl rfl (by kernel_rfl) rfl _ (by exact Nat.le_of_ble_eq_true rfl) H).trans ?_
  simp [Try.f32, hH, Tm.enc, dig, encs]
theorem lapp_call {wl : Nat} (s : ByteArray) (t : Tm) (H : Heap) (hH : 0 < H.length) : E.call 31 wl [.str s, t.enc] H = some (.ret (Tm.mk 7 s false true [] true [t]).enc, H) := by
  refine (E_call Try.func31 rfl rfl (by kernel_rfl) rfl _ (by exact Nat.le_of_ble_eq_true rfl) H).trans ?_
  obtain ⟨k, nm, ng, df, ds, kf, ks⟩ := t
  simp [Try.f31, hH, Tm.enc, encs, dig]
theorem ldata_call {wl : Nat} (s : ByteArray) (f : Bool) (l : List Vl) (H : Heap) (hH : 0 < H.length) : E.call 28 wl [.str s, .lst f (encVs l)] H = some (.ret (Vl.mk 3 false true [] false s f l).enc, H) := by
  refine (E_call Try.func28 rfl rfl (by kernel_rfl) rfl _ (by exact Nat.le_of_ble_eq_true rfl) H).trans ?_
  simp [Try.f28, hH, Vl.enc, dig]
theorem lwhole_call {wl : Nat} (n : Int) (hn : -1000000000000 < n ∧ n < 1000000000000) (H : Heap) (hH : 0 < H.length) : E.call 29 wl [.int .i64 n] H = some (.ret (numV n).enc, H) := by
  refine (E_call Try.func29 rfl rfl (by kernel_rfl) rfl _ (by exact Nat.le_of_ble_eq_true rfl) H).trans ?_
  have hc := fun (w2 : Nat) (L1 : List Blk) => numOf_call (wl := w2) n hn (L1 :: H) (by simp)
  rw [encI_sg] at hc
  rw [numV_sg]
  simp [Try.f29, hH, hc]
def listsD : List Dt := [⟨bL, true, [⟨bN, true, []⟩, ⟨bC, true, [bInt, bL]⟩]⟩]
theorem lists_call {wl : Nat} (H : Heap) (hH : 0 < H.length) : E.call 30 wl [] H = some (.ret (.lst true (encD listsD)), H) := by
  refine (E_call Try.func30 rfl rfl (by kernel_rfl) rfl _ (by exact Nat.le_of_ble_eq_true rfl) H).trans ?_
  simp [Try.f30, hH, listsD, encD, Dt.enc, encC, Cn.enc, encF]

/-- What a term comes to, as a truth. -/
def trZ : Except Nat Vl → Int
  | .ok v => if v.k = 2 then (if v.tr then 1 else 0) else -1
  | .error _ => -1

/-- Data, bounds that are few. -/
structure Few (ds : List Dt) (bs : List Bd) : Prop where
  ds : okD ds
  bl : bs.length < 1000000000
  bs : ∀ b ∈ bs, okV 1000 b.v

theorem EvalF_call {wl : Nat} {fd fb : Bool} {ds : List Dt} {bs : List Bd} (hf : Few ds bs) (t : Tm) (hok : okE t) (hfb : fB 1000 t < 10000000) (H : Heap) (hH : 0 < H.length) :
    E.call 16 wl [.lst fd (encD ds), .lst fb (encB bs), t.enc] H = some (.ret (resP (evalS ds bs t)), H) :=
  Eval_call 1000 (by decide) fd ds fb bs hf.ds hf.bl hf.bs (by decide) t.size t H (Nat.le_refl _) hok hfb hH

theorem truth_call {wl : Nat} {fd fb : Bool} {ds : List Dt} {bs : List Bd} (hf : Few ds bs) (t : Tm) (hok : okE t) (hfb : fB 1000 t < 10000000) (H : Heap) (hH : 0 < H.length) :
    E.call 14 wl [.lst fd (encD ds), .lst fb (encB bs), t.enc] H = some (.ret (.int .i64 (trZ (evalS ds bs t))), H) := by
  refine (E_call Try.func14 rfl rfl (by kernel_rfl) rfl _ (by exact Nat.le_of_ble_eq_true rfl) H).trans ?_
  have hc := fun (w2 : Nat) (L1 : List Blk) => EvalF_call (wl := w2) (fd := fd) (fb := fb) hf t hok hfb (L1 :: H) (by simp)
  have te : ∃ tf td, t.enc = .agg [.int .u8 t.k, .str t.nm, .bool t.ng, .lst tf (dig td), .lst t.kf (encs t.ks)] := by cases t; exact ⟨_, _, rfl⟩
  obtain ⟨tf, td, te⟩ := te
  rw [te] at hc ⊢
  cases hr : evalS ds bs t with
  | error e =>
    have he := eval_err t hr
    have hne : ¬ e = 0 := by omega
    rw [hr] at hc
    simp only [resP, zero0_enc] at hc
    simp [Try.f14, hc, hne, trZ, hH]
  | ok v =>
    rw [hr] at hc
    simp only [resP] at hc
    have ve : v.enc = .agg [.int .u8 v.k, .bool v.ng, .lst v.df (dig v.ds), .bool v.tr, .str v.nm, .lst v.ff (encVs v.fs)] := by cases v; rfl
    rw [ve] at hc
    by_cases hk : v.k = 2
    · have hk2 : ((v.k : Int) == 2) = true := by rw [beq_iff_eq]; omega
      rw [hk] at hc
      cases ht : v.tr <;> rw [ht] at hc <;> simp [Try.f14, hc, hk, trZ, hH, ht]
    · have hk2 : ¬ (v.k : Int) = 2 := by omega
      simp [Try.f14, hc, hk, hk2, trZ, hH]
end Go.GL.Seat

/-! Walks, mN: the document's examples (package whetstonelaw05). -/
namespace Go.GL.Seat
open Go.Proofs
set_option maxRecDepth 100000
set_option maxHeartbeats 8000000

theorem digs_small (n : Nat) (h0 : 0 < n) (h1 : n < 1000000000) : digsOf n = [n] := by
  have h9 : B9 = 1000000000 := rfl
  rw [digsOf_pos h0, h9, Nat.mod_eq_of_lt h1, Nat.div_eq_of_lt h1, digsOf_zero]
theorem numV_small (n : Nat) (h0 : 0 < n) (h1 : n < 1000000000) : numV (n : Int) = .mk 1 false false [n] false bNil true [] := by
  unfold numV
  rw [show ((n : Int)).natAbs = n from rfl, digs_small n h0 h1]
  have : ¬ (n : Int) < 0 := by omega
  simp [this]
theorem numV5 : numV 5 = .mk 1 false false [5] false bNil true [] := numV_small 5 (by decide) (by decide)
theorem numV1 : numV 1 = .mk 1 false false [1] false bNil true [] := numV_small 1 (by decide) (by decide)
theorem numV0 : numV 0 = .mk 1 false true [] false bNil true [] := by
  unfold numV
  rw [show (0 : Int).natAbs = 0 from rfl, digsOf_zero]
  rfl

def nilX : Vl := .mk 3 false true [] false bN true []
def valX : Vl := .mk 3 false true [] false bC true [.mk 1 false false [5] false bNil true [], nilX]
def bsX : List Bd := [⟨bX, valX⟩]
def tmX : Tm := .mk 1 bX false true [] true []

theorem ev_x : evalS listsD bsX tmX = .ok (copV valX) := by
  rfl
theorem ev_tag : evalS listsD bsX (.mk 7 bTag false true [] true [tmX]) = .ok (numV 1) := by
  rfl
theorem ev_c0 : evalS listsD bsX (.mk 7 bC0 false true [] true [tmX]) = .ok (.mk 1 false false [5] false bNil true []) := by
  rfl
theorem ev_c01 : evalS listsD bsX (.mk 7 bC0 false true [] true [.mk 7 bC1 false true [] true [tmX]]) = .ok (zeroVl 1) := by
  rfl

theorem few_x : Few listsD bsX := by
  refine ⟨⟨by decide, ?_⟩, by decide, ?_⟩
  · intro d hd
    simp [listsD] at hd
    subst hd
    refine ⟨by decide, fun c hc => ?_⟩
    simp at hc
    rcases hc with rfl | rfl <;> decide
  · intro b hb
    simp [bsX] at hb
    subst hb
    simp [okV, okVs, valX, nilX]
theorem ok_x : okE tmX := by simp [okE, okEs, tmX]; decide
theorem ok_tag : okE (.mk 7 bTag false true [] true [tmX]) := by simp [okE, okEs, tmX]; decide
theorem ok_c0 : okE (.mk 7 bC0 false true [] true [tmX]) := by simp [okE, okEs, tmX]; decide
theorem ok_c01 : okE (.mk 7 bC0 false true [] true [.mk 7 bC1 false true [] true [tmX]]) := by simp [okE, okEs, tmX]; decide

theorem awake5_call {wl : Nat} (H : Heap) (hH : 0 < H.length) : E.call 12 wl [] H = some (.ret (.bool true), H) := by
  refine (E_call Try.func12 rfl rfl (by kernel_rfl) rfl _ (by exact Nat.le_of_ble_eq_true rfl) H).trans ?_
  have w5 := fun (w2 : Nat) (L1 : List Blk) => lwhole_call (wl := w2) 5 (by decide) (L1 :: H) (by simp)
  have w1 := fun (w2 : Nat) (L1 : List Blk) => lwhole_call (wl := w2) 1 (by decide) (L1 :: H) (by simp)
  have w0 := fun (w2 : Nat) (L1 : List Blk) => lwhole_call (wl := w2) 0 (by decide) (L1 :: H) (by simp)
  have d1 := fun (w2 : Nat) (L1 : List Blk) => ldata_call (wl := w2) bN true [] (L1 :: H) (by simp)
  have d2 := fun (w2 : Nat) (L1 : List Blk) => ldata_call (wl := w2) bC true [.mk 1 false false [5] false bNil true [], nilX] (L1 :: H) (by simp)
  have n1 := fun (w2 : Nat) (L1 : List Blk) => lname_call (wl := w2) bX (L1 :: H) (by simp)
  have a1 := fun (w2 : Nat) (L1 : List Blk) => lapp_call (wl := w2) bTag tmX (L1 :: H) (by simp)
  have a2 := fun (w2 : Nat) (L1 : List Blk) => lapp_call (wl := w2) bC0 tmX (L1 :: H) (by simp)
  have a3 := fun (w2 : Nat) (L1 : List Blk) => lapp_call (wl := w2) bC1 tmX (L1 :: H) (by simp)
  have a4 := fun (w2 : Nat) (L1 : List Blk) => lapp_call (wl := w2) bC0 (.mk 7 bC1 false true [] true [tmX]) (L1 :: H) (by simp)
  have l1 := fun (w2 : Nat) (L1 : List Blk) => lists_call (wl := w2) (L1 :: H) (by simp)
  have e1 := fun (w2 : Nat) (L1 : List Blk) => EvalF_call (wl := w2) (fd := true) (fb := true) few_x _ ok_tag (by decide) (L1 :: H) (by simp)
  have e2 := fun (w2 : Nat) (L1 : List Blk) => EvalF_call (wl := w2) (fd := true) (fb := true) few_x _ ok_c0 (by decide) (L1 :: H) (by simp)
  have e3 := fun (w2 : Nat) (L1 : List Blk) => EvalF_call (wl := w2) (fd := true) (fb := true) few_x _ ok_c01 (by decide) (L1 :: H) (by simp)
  rw [ev_tag] at e1
  rw [ev_c0] at e2
  rw [ev_c01] at e3
  have s1 := fun (w2 : Nat) (L1 : List Blk) => Same_call 1000 (by decide) 10 (numV 1) (by rw [numV1]; decide) (by rw [numV1]; simp [okV, okVs]) w2 (numV 1) (L1 :: H) (by simp)
  have s2 := fun (w2 : Nat) (L1 : List Blk) => Same_call 1000 (by decide) 10 (numV 5) (by rw [numV5]; decide) (by rw [numV5]; simp [okV, okVs]) w2 (numV 5) (L1 :: H) (by simp)
  have s3 := fun (w2 : Nat) (L1 : List Blk) => Same_call 1000 (by decide) 10 (zeroVl 1) (by decide) (by simp [okV, okVs, zeroVl]) w2 (numV 0) (L1 :: H) (by simp)
  rw [sameV_refl] at s1 s2
  rw [numV0, show sameV (zeroVl 1) (.mk 1 false true [] false bNil true []) = true from rfl] at s3
  rw [numV5] at w5 s2
  rw [numV1] at w1 s1 e1
  rw [numV0] at w0
  simp only [resP, Vl.enc, encVs, Tm.enc, encs, tmX, nilX, zeroVl, bsX, valX, Bd.enc, encB, List.map_cons, List.map_nil, cellsOf] at w5 w1 w0 d1 d2 n1 a1 a2 a3 a4 e1 e2 e3 s1 s2 s3
  obtain ⟨dl, hdl⟩ : ∃ dl, encD listsD = dl := ⟨_, rfl⟩
  rw [hdl] at l1 e1 e2 e3
  simp [dig] at w5 w1 w0 d1 d2 n1 a1 a2 a3 a4 e1 e2 e3 s1 s2 s3
  simp [Try.f12, w5, w1, w0, d1, d2, n1, a1, a2, a3, a4, e1, e2, e3, s1, s2, s3, l1, hH]
end Go.GL.Seat

/-! Walks, mO: the law of truths and numbers. -/
namespace Go.GL.Seat
open Go.Proofs
set_option maxRecDepth 100000
set_option maxHeartbeats 16000000

theorem enc5 (t : Tm) : ∃ tf td, t.enc = .agg [.int .u8 t.k, .str t.nm, .bool t.ng, .lst tf (dig td), .lst t.kf (encs t.ks)] := by cases t; exact ⟨_, _, rfl⟩
theorem enc6 (v : Vl) : v.enc = .agg [.int .u8 v.k, .bool v.ng, .lst v.df (dig v.ds), .bool v.tr, .str v.nm, .lst v.ff (encVs v.fs)] := by cases v; rfl
theorem resP_two (r : Except Nat Vl) (h : ∀ e, r = .error e → e ≠ 0) : ∃ (u : Vl) (e : Nat), resP r = .tup [u.enc, .int .i64 e] ∧ ((r = .ok u ∧ e = 0) ∨ ((∃ e', r = .error e') ∧ e ≠ 0)) := by
  cases r with
  | ok v => exact ⟨v, 0, rfl, .inl ⟨rfl, rfl⟩⟩
  | error e => exact ⟨zeroVl 0, e, rfl, .inr ⟨⟨e, rfl⟩, h e rfl⟩⟩

/-- Terms that are few. -/
structure FewT (n : Nat) (t : Tm) : Prop where
  ok : okE t
  fb : fB 1000 t < n
theorem FewT.made1 {n k : Nat} {f : Bool} {t : Tm} (h : FewT n t) : FewT (n + 1002) (.mk k bNil false true [] f [t]) :=
  ⟨⟨by decide, by simp, by simp, by simp, h.ok, trivial⟩, by have := h.fb; simp only [fB, fBs, List.length_nil]; omega⟩
theorem FewT.made2 {n m k : Nat} {f : Bool} {s t : Tm} (h : FewT n s) (g : FewT m t) : FewT (n + m + 1003) (.mk k bNil false true [] f [s, t]) :=
  ⟨⟨by decide, by simp, by simp, by simp, h.ok, g.ok, trivial⟩, by have := h.fb; have := g.fb; simp only [fB, fBs, List.length_nil]; omega⟩

theorem truthF_call {wl n : Nat} {fd fb : Bool} {ds : List Dt} {bs : List Bd} (hf : Few ds bs) (t : Tm) (ht : FewT n t) (hn : n ≤ 10000000) (H : Heap) (hH : 0 < H.length) :
    E.call 14 wl [.lst fd (encD ds), .lst fb (encB bs), t.enc] H = some (.ret (.int .i64 (trZ (evalS ds bs t))), H) :=
  truth_call hf t ht.ok (by have := ht.fb; omega) H hH
theorem evalF_call {wl n : Nat} {fd fb : Bool} {ds : List Dt} {bs : List Bd} (hf : Few ds bs) (t : Tm) (ht : FewT n t) (hn : n ≤ 10000000) (H : Heap) (hH : 0 < H.length) :
    E.call 16 wl [.lst fd (encD ds), .lst fb (encB bs), t.enc] H = some (.ret (resP (evalS ds bs t)), H) :=
  EvalF_call hf t ht.ok (by have := ht.fb; omega) H hH

theorem made_k {wl : Nat} (kk : Int) (k : Nat) (hk : (k : Int) = kk) (f : Bool) (l : List Tm) (H : Heap) (hH : 0 < H.length) : E.call 15 wl [.int .u8 kk, .lst f (encs l)] H = some (.ret (.agg [.int .u8 kk, .str bNil, .bool false, .lst true [], .lst f (encs l)]), H) := by
  subst hk
  exact lmade_call k f l H hH
theorem truth_k {wl n : Nat} (kk : Int) (k : Nat) (hk : (k : Int) = kk) {fd fb : Bool} {ds : List Dt} {bs : List Bd} (hf : Few ds bs) (f : Bool) (l : List Tm) (ht : FewT n (.mk k bNil false true [] f l)) (hn : n ≤ 10000000) {r : Except Nat Vl} (hr : evalS ds bs (.mk k bNil false true [] f l) = r) (H : Heap) (hH : 0 < H.length) :
    E.call 14 wl [.lst fd (encD ds), .lst fb (encB bs), .agg [.int .u8 kk, .str bNil, .bool false, .lst true [], .lst f (encs l)]] H = some (.ret (.int .i64 (trZ r)), H) := by
  subst hk hr
  exact truthF_call hf _ ht hn H hH
theorem eval_k {wl n : Nat} (kk : Int) (k : Nat) (hk : (k : Int) = kk) {fd fb : Bool} {ds : List Dt} {bs : List Bd} (hf : Few ds bs) (f : Bool) (l : List Tm) (ht : FewT n (.mk k bNil false true [] f l)) (hn : n ≤ 10000000) {r : Except Nat Vl} (hr : evalS ds bs (.mk k bNil false true [] f l) = r) (H : Heap) (hH : 0 < H.length) :
    E.call 16 wl [.lst fd (encD ds), .lst fb (encB bs), .agg [.int .u8 kk, .str bNil, .bool false, .lst true [], .lst f (encs l)]] H = some (.ret (resP r), H) := by
  subst hk hr
  exact evalF_call hf _ ht hn H hH
theorem trZ_truth (b : Bool) : trZ (.ok (truthV b)) = if b then 1 else 0 := rfl
theorem dig_nil : dig [] = [] := rfl

theorem truths_call (fd fb : Bool) (ds : List Dt) (bs : List Bd) (s t : Tm) (H : Heap) (hH : 0 < H.length) (wl : Nat)
    (h1 : ∀ b ∈ ds, szD b) (h2 : ds.length ≤ BG) (h3 : ∀ b ∈ bs, szB b) (h4 : bs.length ≤ BG) (h5 : szT s) (h6 : szT t) (hdb : ∀ b ∈ bs, dgV b.v) (hds : dgT s) (hdt : dgT t) :
    E.call 4 wl [.lst fd (encD ds), .lst fb (encB bs), s.enc, t.enc] H = some (.ret (.bool true), H) := by
  refine (E_call Try.func4 rfl rfl (by kernel_rfl) rfl _ (by exact Nat.le_of_ble_eq_true rfl) H).trans ?_
  have haw := fun (w2 : Nat) (L1 : List Blk) => awake5_call (wl := w2) (L1 :: H) (by simp)
  have hgr := fun (w2 : Nat) (L1 : List Blk) => great_call (wl := w2) fd fb true ds bs [s, t] h1 h2 h3 h4 ⟨h5, h6, trivial⟩ (by simp; decide) (L1 :: H) (by simp)
  obtain ⟨sf, sd, es⟩ := enc5 s
  obtain ⟨tf, td, et⟩ := enc5 t
  simp only [encs, es, et] at hgr ⊢
  cases hg : greatP ds bs [s, t] with
  | true =>
    rw [hg] at hgr
    simp [Try.f4, haw, hgr, hH]
  | false =>
  rw [hg] at hgr
  simp only [greatP, Bool.or_eq_false_iff, decide_eq_false_iff_not, Int.not_lt] at hg
  obtain ⟨g1, g2, g3⟩ := hg
  have q1 := cntD_few 600 0 ds h1 (by omega) (by omega) g1
  have q2 := cntB_few 600 0 bs h3 (by omega) (by omega) g2 hdb
  have q3 := cntT_few 600 0 [s, t] ⟨h5, h6, trivial⟩ (by omega) (by omega) (by omega) g3 ⟨hds, hdt, trivial⟩
  have few : Few ds bs := ⟨⟨by omega, fun d hd => ⟨by have := (q1.2 d hd).1; omega, fun c hc => by have := (q1.2 d hd).2 c hc; omega⟩⟩, by omega, q2.2⟩
  simp only [tmSs] at q3
  have fs : FewT 1000000 s := ⟨q3.2.2.1, by have := fB_le 1000 s; omega⟩
  have ft : FewT 1000000 t := ⟨q3.2.2.2.1, by have := fB_le 1000 t; omega⟩
  have trs := fun (w2 : Nat) (L1 : List Blk) => truthF_call (wl := w2) (fd := fd) (fb := fb) few s fs (by omega) (L1 :: H) (by simp)
  have trt := fun (w2 : Nat) (L1 : List Blk) => truthF_call (wl := w2) (fd := fd) (fb := fb) few t ft (by omega) (L1 :: H) (by simp)
  have evs := fun (w2 : Nat) (L1 : List Blk) => evalF_call (wl := w2) (fd := fd) (fb := fb) few s fs (by omega) (L1 :: H) (by simp)
  have evt := fun (w2 : Nat) (L1 : List Blk) => evalF_call (wl := w2) (fd := fd) (fb := fb) few t ft (by omega) (L1 :: H) (by simp)
  obtain ⟨u, e, ru, hu⟩ := resP_two (evalS ds bs s) (fun e h => by have := eval_err s h; omega)
  obtain ⟨v, f, rv, hv⟩ := resP_two (evalS ds bs t) (fun e h => by have := eval_err t h; omega)
  rw [ru] at evs
  rw [rv] at evt
  rw [es] at trs evs
  rw [et] at trt evt
  rw [enc6] at evs evt
  have other : (∀ w2 L1, E.call 14 w2 [.lst fd (encD ds), .lst fb (encB bs), .agg [.int .u8 s.k, .str s.nm, .bool s.ng, .lst sf (dig sd), .lst s.kf (encs s.ks)]] (L1 :: H) = some (.ret (.int .i64 (-1)), L1 :: H)) → True := fun _ => trivial
  rcases hu with ⟨hu, he⟩ | ⟨⟨e', hu⟩, he⟩
  case inr =>
    rw [hu] at trs
    simp only [trZ] at trs
    simp [Try.f4, haw, hgr, hH, trs, trt, evs, evt, he]
  rcases hv with ⟨hv, hf⟩ | ⟨⟨e', hv⟩, hf⟩
  case inr =>
    rw [hv] at trt
    rw [hu] at trs
    simp only [trZ] at trs trt
    obtain ⟨a, ha⟩ : ∃ a : Int, (if u.k = 2 then (if u.tr then (1 : Int) else 0) else -1) = a := ⟨_, rfl⟩
    rw [ha] at trs
    by_cases h0 : 0 ≤ a
    · simp [Try.f4, haw, hgr, hH, trs, trt, evs, evt, he, hf, h0]
    · simp [Try.f4, haw, hgr, hH, trs, trt, evs, evt, he, hf, h0]
  subst he hf
  by_cases k2 : u.k = 2 ∧ v.k = 2
  · obtain ⟨ku, kv⟩ := k2
    rw [hu] at trs
    rw [hv] at trt
    simp only [trZ, ku, kv, if_true] at trs trt
    have m1 := fun (w2 : Nat) (L1 : List Blk) => made_k (wl := w2) 10 10 rfl true [s] (L1 :: H) (by simp)
    have m2 := fun (w2 : Nat) (L1 : List Blk) => made_k (wl := w2) 10 10 rfl true [t] (L1 :: H) (by simp)
    have m3 := fun (w2 : Nat) (L1 : List Blk) => made_k (wl := w2) 11 11 rfl true [s, t] (L1 :: H) (by simp)
    have m4 := fun (w2 : Nat) (L1 : List Blk) => made_k (wl := w2) 12 12 rfl true [s, t] (L1 :: H) (by simp)
    have m5 := fun (w2 : Nat) (L1 : List Blk) => made_k (wl := w2) 13 13 rfl true [s, t] (L1 :: H) (by simp)
    have m6 := fun (w2 : Nat) (L1 : List Blk) => made_k (wl := w2) 11 11 rfl true [.mk 10 bNil false true [] true [s], .mk 10 bNil false true [] true [t]] (L1 :: H) (by simp)
    have m7 := fun (w2 : Nat) (L1 : List Blk) => made_k (wl := w2) 10 10 rfl true [.mk 11 bNil false true [] true [.mk 10 bNil false true [] true [s], .mk 10 bNil false true [] true [t]]] (L1 :: H) (by simp)
    have t1 := fun (w2 : Nat) (L1 : List Blk) => truth_k (wl := w2) (fd := fd) (fb := fb) 10 10 rfl few true [s] fs.made1 (by omega) (ev_not hu ku) (L1 :: H) (by simp)
    have t3 := fun (w2 : Nat) (L1 : List Blk) => truth_k (wl := w2) (fd := fd) (fb := fb) 11 11 rfl few true [s, t] (fs.made2 ft) (by omega) (ev_and hu ku hv kv) (L1 :: H) (by simp)
    have t4 := fun (w2 : Nat) (L1 : List Blk) => truth_k (wl := w2) (fd := fd) (fb := fb) 12 12 rfl few true [s, t] (fs.made2 ft) (by omega) (ev_or hu ku hv kv) (L1 :: H) (by simp)
    have t5 := fun (w2 : Nat) (L1 : List Blk) => truth_k (wl := w2) (fd := fd) (fb := fb) 13 13 rfl few true [s, t] (fs.made2 ft) (by omega) (ev_iff hu ku hv kv) (L1 :: H) (by simp)
    have t7 := fun (w2 : Nat) (L1 : List Blk) => truth_k (wl := w2) (fd := fd) (fb := fb) 10 10 rfl few true [.mk 11 bNil false true [] true [.mk 10 bNil false true [] true [s], .mk 10 bNil false true [] true [t]]] (FewT.made1 (FewT.made2 fs.made1 ft.made1)) (by omega) (ev_not (ev_and (ev_not hu ku) rfl (ev_not hv kv) rfl) rfl) (L1 :: H) (by simp)
    have c10 : ((10 : Nat) : Int) = 10 := rfl
    have c11 : ((11 : Nat) : Int) = 11 := rfl
    simp only [encs, Tm.enc, es, et, trZ_truth, dig_nil, c10, c11] at m1 m2 m3 m4 m5 m6 m7 t1 t3 t4 t5 t7
    have tv : ∀ b, (truthV b).tr = b := fun _ => rfl
    have w2 : IntKind.wrap .i64 2 = 2 := by decide
    rw [tv, tv, tv] at t7
    cases hp : u.tr <;> cases hq : v.tr <;> rw [hp] at trs t1 t3 t4 t5 t7 <;> rw [hq] at trt t3 t4 t5 t7 <;>
      simp only [Bool.not_true, Bool.not_false, Bool.and_true, Bool.and_false, Bool.true_and, Bool.false_and, Bool.or_true, Bool.or_false, Bool.true_or, Bool.false_or, if_true, if_false, Bool.false_eq_true, beq_self_eq_true, reduceCtorEq, beq_iff_eq] at trs trt t1 t3 t4 t5 t7 <;>
      simp [Try.f4, haw, hgr, hH, trs, trt, m1, m2, m3, m4, m5, m6, m7, t1, t3, t4, t5, t7, w2]
  rw [hu] at trs
  rw [hv] at trt
  by_cases k1 : u.k = 1 ∧ v.k = 1
  · obtain ⟨ku, kv⟩ := k1
    simp only [trZ, ku, kv, if_false, show ¬ (1 : Nat) = 2 by decide] at trs trt
    rw [ku] at evs
    rw [kv] at evt
    have gu := eval_ok few.ds (D := 1000) (by decide) few.bs s hu
    have gv := eval_ok few.ds (D := 1000) (by decide) few.bs t hv
    have nu := int_norm gu.1 ku
    have nv := int_norm gv.1 kv
    have lu := okV_ds gu.2
    have lv := okV_ds gv.2
    have fsb := fs.fb
    have ftb := ft.fb
    have m1 := fun (w2 : Nat) (L1 : List Blk) => made_k (wl := w2) 9 9 rfl true [s, t] (L1 :: H) (by simp)
    have m2 := fun (w2 : Nat) (L1 : List Blk) => made_k (wl := w2) 9 9 rfl true [t, s] (L1 :: H) (by simp)
    have m3 := fun (w2 : Nat) (L1 : List Blk) => made_k (wl := w2) 8 8 rfl true [s, t] (L1 :: H) (by simp)
    have m4 := fun (w2 : Nat) (L1 : List Blk) => made_k (wl := w2) 5 5 rfl true [s, t] (L1 :: H) (by simp)
    have t1 := fun (w2 : Nat) (L1 : List Blk) => truth_k (wl := w2) (fd := fd) (fb := fb) 9 9 rfl few true [s, t] (fs.made2 ft) (by omega) (ev_le hu ku hv kv) (L1 :: H) (by simp)
    have t2 := fun (w2 : Nat) (L1 : List Blk) => truth_k (wl := w2) (fd := fd) (fb := fb) 9 9 rfl few true [t, s] (ft.made2 fs) (by omega) (ev_le hv kv hu ku) (L1 :: H) (by simp)
    have t3 := fun (w2 : Nat) (L1 : List Blk) => truth_k (wl := w2) (fd := fd) (fb := fb) 8 8 rfl few true [s, t] (fs.made2 ft) (by omega) (ev_eq hu ku hv kv) (L1 :: H) (by simp)
    have t4 := fun (w2 : Nat) (L1 : List Blk) => eval_k (wl := w2) (fd := fd) (fb := fb) 5 5 rfl few true [s, t] (fs.made2 ft) (by omega) (ev_add hu ku hv kv) (L1 :: H) (by simp)
    rw [sameV_int gu.1 gv.1 ku kv] at t3
    obtain ⟨x, hx⟩ : ∃ x, u.val = x := ⟨_, rfl⟩
    obtain ⟨y, hy⟩ : ∃ y, v.val = y := ⟨_, rfl⟩
    have hsum : (digsOf (x + y).natAbs).length ≤ 3000000 := by
      have h3 := digs_mono (show (x + y).natAbs ≤ x.natAbs + y.natAbs by omega)
      have h4 := digs_add x.natAbs y.natAbs
      have h5 := val_len gu.1
      have h6 := val_len gv.1
      rw [hx] at h5
      rw [hy] at h6
      omega
    have h9 : B9 = 1000000000 := rfl
    have hsub := fun (L1 : List Blk) => Sub_call (wl := H.length + 1) ⟨decide (x + y < 0), rowF (digsOf (x + y).natAbs), digsOf (x + y).natAbs⟩ (numVl v) ⟨by simp only []; omega, fun d hd => by have := digsOf_lt _ d hd; omega⟩ (okV_num (M := 1000000) (by decide) (okV.mono (by omega) gv.2)) (L1 :: H) (by simp) (by simp)
    have hvn : (Nm.mk (decide (x + y < 0)) (rowF (digsOf (x + y).natAbs)) (digsOf (x + y).natAbs)).val = x + y := by
      show valI _ _ = _
      unfold valI
      rw [valD_digsOf]
      by_cases h : x + y < 0
      · rw [decide_eq_true h, if_pos rfl]; omega
      · rw [decide_eq_false h, if_neg (by simp)]; omega
    rw [hvn, numVl_val, hy, show x + y - y = x by omega] at hsub
    have hsame := fun (w2 : Nat) (L1 : List Blk) => sameInt_call (wl := w2) (decide (x < 0)) u.ng (rowF (digsOf x.natAbs)) u.df (digsOf x.natAbs) u.ds (L1 :: H) (by simp) (by have h5 := val_len gu.1; rw [hx] at h5; omega)
    rw [hx] at nu t1 t2 t3 t4
    rw [hy] at t1 t2 t3 t4
    rw [nu.1, nu.2.1] at hsame
    simp only [beq_self_eq_true, decide_true, Bool.true_and] at hsame
    simp only [encI, Nm.enc, numVl, nu.1, nu.2.1] at hsub
    rw [show resP (.ok (numV (x + y))) = .tup [(numV (x + y)).enc, .int .i64 0] from rfl, numV_enc] at t4
    simp only [encs, es, et, trZ_truth] at m1 m2 m3 m4 t1 t2 t3 t4
    obtain ⟨nb, hnb⟩ : ∃ nb, decide (x + y < 0) = nb := ⟨_, rfl⟩
    obtain ⟨nr, hnr⟩ : ∃ nr, rowF (digsOf (x + y).natAbs) = nr := ⟨_, rfl⟩
    obtain ⟨nd, hnd⟩ : ∃ nd, dig (digsOf (x + y).natAbs) = nd := ⟨_, rfl⟩
    rw [hnb, hnr, hnd] at t4
    simp only [hnb, hnr, hnd] at hsub
    have w2 : IntKind.wrap .i64 2 = 2 := by decide
    rcases Int.lt_trichotomy x y with hxy | hxy | hxy
    · have a1 : decide (x ≤ y) = true := decide_eq_true (by omega)
      have a2 : decide (y ≤ x) = false := decide_eq_false (by omega)
      have a3 : decide (x = y) = false := decide_eq_false (by omega)
      rw [a1] at t1
      rw [a2] at t2
      rw [a3] at t3
      simp only [if_true, if_false, Bool.false_eq_true] at t1 t2 t3
      simp [Try.f4, haw, hgr, hH, trs, trt, evs, evt, m1, m2, m3, m4, t1, t2, t3, t4, hsub, hsame, w2]
    · have a1 : decide (x ≤ y) = true := decide_eq_true (by omega)
      have a2 : decide (y ≤ x) = true := decide_eq_true (by omega)
      have a3 : decide (x = y) = true := decide_eq_true (by omega)
      rw [a1] at t1
      rw [a2] at t2
      rw [a3] at t3
      simp only [if_true, if_false, Bool.false_eq_true] at t1 t2 t3
      simp [Try.f4, haw, hgr, hH, trs, trt, evs, evt, m1, m2, m3, m4, t1, t2, t3, t4, hsub, hsame, w2]
    · have a1 : decide (x ≤ y) = false := decide_eq_false (by omega)
      have a2 : decide (y ≤ x) = true := decide_eq_true (by omega)
      have a3 : decide (x = y) = false := decide_eq_false (by omega)
      rw [a1] at t1
      rw [a2] at t2
      rw [a3] at t3
      simp only [if_true, if_false, Bool.false_eq_true] at t1 t2 t3
      simp [Try.f4, haw, hgr, hH, trs, trt, evs, evt, m1, m2, m3, m4, t1, t2, t3, t4, hsub, hsame, w2]
  · have hor : (u.k = 2 → ¬ v.k = 2) := fun h1 h2 => k2 ⟨h1, h2⟩
    have hor1 : (u.k = 1 → ¬ v.k = 1) := fun h1 h2 => k1 ⟨h1, h2⟩
    have hno : ¬ (0 ≤ trZ (.ok u) ∧ 0 ≤ trZ (.ok v)) := by
      rintro ⟨a1, a2⟩
      simp only [trZ] at a1 a2
      by_cases h1 : u.k = 2
      · rw [if_neg (hor h1)] at a2; omega
      · rw [if_neg h1] at a1; omega
    obtain ⟨a, ha⟩ : ∃ a, trZ (.ok u) = a := ⟨_, rfl⟩
    obtain ⟨b, hb⟩ : ∃ b, trZ (.ok v) = b := ⟨_, rfl⟩
    rw [ha] at trs hno
    rw [hb] at trt hno
    have hnk : ((u.k : Int) = 1 → ¬ (v.k : Int) = 1) := fun h1 h2 => hor1 (by omega) (by omega)
    by_cases b0 : 0 ≤ a
    · have b1 : ¬ 0 ≤ b := fun h => hno ⟨b0, h⟩
      by_cases e1 : u.k = 1
      · have e2 : ¬ v.k = 1 := hor1 e1
        have e2' : ¬ (v.k : Int) = 1 := by omega
        simp [Try.f4, haw, hgr, hH, trs, trt, evs, evt, b0, b1, e1, e2, e2']
      · have e1' : ¬ (u.k : Int) = 1 := by omega
        simp [Try.f4, haw, hgr, hH, trs, trt, evs, evt, b0, b1, e1, e1']
    · by_cases e1 : u.k = 1
      · have e2 : ¬ v.k = 1 := hor1 e1
        have e2' : ¬ (v.k : Int) = 1 := by omega
        simp [Try.f4, haw, hgr, hH, trs, trt, evs, evt, b0, e1, e2, e2']
      · have e1' : ¬ (u.k : Int) = 1 := by omega
        simp [Try.f4, haw, hgr, hH, trs, trt, evs, evt, b0, e1, e1']
end Go.GL.Seat
