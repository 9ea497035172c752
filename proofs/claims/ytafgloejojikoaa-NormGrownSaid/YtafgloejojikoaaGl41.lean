/-
  Walks, N: the reference's sorts, small parts (package whetstoneref04).
  Walks, O: the reference's sorts: constructors, functions, names (package whetstoneref04).
  Walks, P: the reference's sorts of terms (package whetstoneref04).
  Walks, Q: the reference's pushing at towers (package whetstoneref07).
  Walks, R: the reference's pushing at towers; what is the same (package whetstonekit).
  Walks, S: what is the same (package whetstonekit).
  Walks, T: the law of towers (package whetstonelaw07), parts.
  Walks, U: the law of towers (package whetstonelaw07).
  Walks, V: the law of towers is awake (package whetstonelaw07).
-/
import Derived.Test.YtafgloejojikoaaGl40
set_option linter.unusedSimpArgs false
set_option linter.unusedVariables false
/-! Walks, N: the reference's sorts, small parts (package whetstoneref04). -/
namespace Go.GL.Seat
open Go.Proofs
set_option maxRecDepth 100000
set_option maxHeartbeats 8000000

/-- How many kids; -1: any, -2: no such kind. -/
def kidN : Option (Option Nat) → Int
  | some (some n) => n
  | some none => -1
  | none => -2

theorem rkids_call {wl : Nat} (k : Nat) (H : Heap) (hH : 0 < H.length) : E.call 72 wl [.int .u8 k] H = some (.ret (.int .i64 (kidN (many k))), H) := by
  refine (E_call Try.func72 rfl rfl (by kernel_rfl) rfl _ (by exact Nat.le_of_ble_eq_true rfl) H).trans ?_
  match k with
  | 0 | 1 | 2 | 3 | 4 | 5 | 6 | 7 | 8 | 9 | 10 | 11 | 12 | 13 => simp [Try.f72, many, kidN, hH]
  | k + 14 =>
    have c : ∀ a : Int, a < 14 → ((k : Int) + 14 == a) = false := fun a h => by simp; omega
    have m : many (k + 14) = none := by
      unfold many
      repeat rw [if_neg (by omega)]
    rw [m]
    simp [Try.f72, c, kidN, hH]

theorem rtold_call {wl : Nat} (s : ByteArray) (b : Bool) (H : Heap) (hH : 0 < H.length) : E.call 116 wl [.str s, .bool b] H = some (.ret (triedS (if b then .ok s else .error 23)), H) := by
  refine (E_call Try.func116 rfl rfl (by kernel_rfl) rfl _ (by exact Nat.le_of_ble_eq_true rfl) H).trans ?_
  cases b <;> simp [Try.f116, hH, triedS]

theorem rData_call {wl : Nat} (f : Bool) (ds : List Dt) (s : ByteArray) (H : Heap) (hH : 0 < H.length) (hb : ds.length < 1000000000000) :
    E.call 120 wl [.lst f (encD ds), .str s] H = some (.ret (.bool (isD ds s)), H) := by
  refine (E_call Try.func120 rfl rfl (by kernel_rfl) rfl _ (by exact Nat.le_of_ble_eq_true rfl) H).trans ?_
  obtain ⟨r, hr⟩ : ∃ r, isD ds s = r := ⟨_, rfl⟩
  rw [hr]
  simp [Try.f120]
  generalize hz : run tab E wl (Code.loop _) _ = z
  obtain ⟨x, s', rfl, hx, hH'⟩ := loop_up (fun c s => E_loop) hz ds.length (fun i st => st.env 0 = .lst f (encD ds) ∧ st.env 1 = .str s ∧ st.env 5 = .int .i64 i ∧ st.H = H ∧ ∀ j d, j < i → ds[j]? = some d → ¬ (d.nm = s ∧ s ≠ bInt ∧ s ≠ bBool))
    (fun x st => ((x = .exit 0 ∧ r = false) ∨ (x = .ret ∧ r = true ∧ st.env 4 = .bool true)) ∧ st.H = H) (by simp) (by
      rintro i ⟨e, L, H'⟩ hi ⟨h0, h1, h5, hHH, hj⟩
      obtain ⟨d, hd⟩ : ∃ d, ds[i]? = some d := ⟨_, List.getElem?_eq_getElem hi⟩
      simp at h0 h1 h5 hHH
      subst hHH
      have hw2 := i64w (n := (i : Int) + 1) (by omega) (by omega)
      have hnext : ¬ (d.nm = s ∧ s ≠ bInt ∧ s ≠ bBool) → ∀ j d, j < i + 1 → ds[j]? = some d → ¬ (d.nm = s ∧ s ≠ bInt ∧ s ≠ bBool) := by
        intro hn j d' hji hd'
        rcases Nat.lt_or_ge j i with h | h
        · exact hj j d' h hd'
        · have : j = i := by omega
          subst this; rw [hd] at hd'; injection hd' with hd'; subst hd'; exact hn
      obtain ⟨dn, dcf, dcs⟩ := d
      simp only [] at hnext
      by_cases h1s : dn = s
      · by_cases h2s : s = bInt
        · have := hnext (by simp [h2s])
          simp [-getElem?_pos, h0, h1, h5, hd, hi, hw2, Dt.enc, h1s, h2s]
          done
        · by_cases h3s : s = bBool
          · have := hnext (by simp [h3s])
            simp [-getElem?_pos, h0, h1, h5, hd, hi, hw2, Dt.enc, h1s, h3s]
            done
          · simp [-getElem?_pos, h0, h1, h5, hd, hi, hw2, Dt.enc, h1s, h2s, h3s]
            rw [← hr]
            unfold isD
            simp [h2s, h3s]
            exact ⟨_, List.mem_of_getElem? hd, h1s⟩
      · have := hnext (by simp [h1s])
        simp [-getElem?_pos, h0, h1, h5, hd, hi, hw2, Dt.enc, h1s]
        simpa using this) (by
      rintro ⟨e, L, H'⟩ ⟨h0, h1, h5, hHH, hj⟩
      simp at h0 h1 h5 hHH
      simp [h0, h1, h5, hHH, ← hr]
      unfold isD
      by_cases h2s : s = bInt
      · simp [h2s]
      by_cases h3s : s = bBool
      · simp [h3s]
      simp [h2s, h3s]
      intro d hd hdn
      obtain ⟨j, hjd⟩ := List.getElem?_of_mem hd
      exact hj j d (List.getElem?_eq_some_iff.1 hjd).1 hjd ⟨hdn, h2s, h3s⟩)
  rcases hx with ⟨rfl, hx⟩ | ⟨rfl, hx, h4⟩
  · simp [hx, hH', hH]
  · simp [hx, hH', hH, h4]

theorem rbase_call {wl : Nat} (f : Bool) (ds : List Dt) (s : ByteArray) (H : Heap) (hH : 0 < H.length) (hb : ds.length < 1000000000000) :
    E.call 117 wl [.lst f (encD ds), .str s] H = some (.ret (.bool (isB ds s)), H) := by
  refine (E_call Try.func117 rfl rfl (by kernel_rfl) rfl _ (by exact Nat.le_of_ble_eq_true rfl) H).trans ?_
  have hc := fun L1 : List Blk => rData_call (wl := wl) f ds s (L1 :: H) (by simp) hb
  by_cases h1 : s = bInt
  · simp [Try.f117, h1, hH, isB]
  · by_cases h2 : s = bBool
    · simp [Try.f117, h2, hH, isB]
    · simp [Try.f117, h1, h2, hH, hc, isB]

theorem rall_call {wl : Nat} (s : ByteArray) (f : Bool) (l : List ByteArray) (H : Heap) (hH : 0 < H.length) (hb : l.length < 1000000000000) :
    E.call 118 wl [.lst f (encF l), .str s] H = some (.ret (.bool (l.all (fun x => decide (x = s)))), H) := by
  refine (E_call Try.func118 rfl rfl (by kernel_rfl) rfl _ (by exact Nat.le_of_ble_eq_true rfl) H).trans ?_
  obtain ⟨r, hr⟩ : ∃ r, (l.all fun x => decide (x = s)) = r := ⟨_, rfl⟩
  rw [hr]
  simp [Try.f118]
  generalize hz : run tab E wl (Code.loop _) _ = z
  obtain ⟨x, s', rfl, hx, hH'⟩ := loop_up (fun c s => E_loop) hz l.length (fun i st => st.env 0 = .lst f (encF l) ∧ st.env 1 = .str s ∧ st.env 5 = .int .i64 i ∧ st.H = H ∧ ∀ j, j < i → l[j]? = some s)
    (fun x st => ((x = .exit 0 ∧ r = true) ∨ (x = .ret ∧ r = false ∧ st.env 4 = .bool false)) ∧ st.H = H) (by simp) (by
      rintro i ⟨e, L, H'⟩ hi ⟨h0, h1, h5, hHH, hj⟩
      obtain ⟨t, ht⟩ : ∃ t, l[i]? = some t := ⟨_, List.getElem?_eq_getElem hi⟩
      simp at h0 h1 h5 hHH
      subst hHH
      have hw2 := i64w (n := (i : Int) + 1) (by omega) (by omega)
      by_cases hts : t = s
      · simp [-getElem?_pos, h0, h1, h5, ht, hi, hw2, hts]
        intro j hji
        rcases Nat.lt_or_ge j i with h | h
        · exact hj j h
        · have : j = i := by omega
          subst this; rw [ht, hts]
      · simp [-getElem?_pos, h0, h1, h5, ht, hi, hw2, hts, ← hr]
        exact ⟨t, List.mem_of_getElem? ht, hts⟩) (by
      rintro ⟨e, L, H'⟩ ⟨h0, h1, h5, hHH, hj⟩
      simp at h0 h1 h5 hHH
      simp [h0, h1, h5, hHH, ← hr]
      intro y hy
      obtain ⟨j, hjy⟩ := List.getElem?_of_mem hy
      have := hj j (List.getElem?_eq_some_iff.1 hjy).1
      rw [this] at hjy
      injection hjy with hjy
      exact hjy.symm)
  rcases hx with ⟨rfl, hx⟩ | ⟨rfl, hx, h4⟩
  · simp [hH', hH, hx]
  · simp [hH', hx, h4, hH]

theorem rRight1_call {wl : Nat} (f : Bool) (l : List Nat) (H : Heap) (hH : 0 < H.length) (hb : l.length < 1000000000000) :
    E.call 115 wl [.lst f (dig l)] H = some (.ret (.bool (rightD l)), H) := by
  refine (E_call Try.func115 rfl rfl (by kernel_rfl) rfl _ (by exact Nat.le_of_ble_eq_true rfl) H).trans ?_
  obtain ⟨r, hr⟩ : ∃ r, rightD l = r := ⟨_, rfl⟩
  rw [hr]
  simp [Try.f115]
  generalize hz : run tab E wl (Code.loop _) _ = z
  obtain ⟨x, s', rfl, hx, h0', hH'⟩ := loop_up (fun c s => E_loop) hz l.length (fun i st => st.env 0 = .lst f (dig l) ∧ st.env 3 = .int .i64 i ∧ st.H = H ∧ ∀ j d, j < i → l[j]? = some d → d < 1000000000)
    (fun x st => ((x = .exit 0 ∧ ∀ d ∈ l, d < 1000000000) ∨ (x = .ret ∧ st.env 2 = .bool false ∧ ¬ ∀ d ∈ l, d < 1000000000)) ∧ st.env 0 = .lst f (dig l) ∧ st.H = H) (by simp) (by
      rintro i ⟨e, L, H'⟩ hi ⟨h0, h3, hHH, hj⟩
      obtain ⟨d, hd⟩ : ∃ d, l[i]? = some d := ⟨_, List.getElem?_eq_getElem hi⟩
      simp at h0 h3 hHH
      subst hHH
      have hw2 := i64w (n := (i : Int) + 1) (by omega) (by omega)
      by_cases hdb : d < 1000000000
      · have hd' : ¬ (1000000000 : Int) ≤ d := by omega
        simp [-getElem?_pos, h0, h3, hd, hi, hw2, hd']
        intro j d' hji hd2
        rcases Nat.lt_or_ge j i with h | h
        · exact hj j d' h hd2
        · have : j = i := by omega
          subst this; rw [hd] at hd2; injection hd2 with hd2; omega
      · have hd' : (1000000000 : Int) ≤ d := by omega
        simp [-getElem?_pos, h0, h3, hd, hi, hw2, hd']
        exact ⟨d, List.mem_of_getElem? hd, by omega⟩) (by
      rintro ⟨e, L, H'⟩ ⟨h0, h3, hHH, hj⟩
      simp at h0 h3 hHH
      simp [h0, h3, hHH]
      intro d hd
      obtain ⟨j, hjd⟩ := List.getElem?_of_mem hd
      exact hj j d (List.getElem?_eq_some_iff.1 hjd).1 hjd)
  rcases hx with ⟨rfl, hx⟩ | ⟨rfl, h2, hx⟩
  · have hall : (l.all fun d => decide (d < 1000000000)) = true := by simpa using hx
    unfold rightD at hr
    rw [hall, Bool.true_and] at hr
    cases hl : l.getLast? with
    | none =>
      have : l = [] := List.getLast?_eq_none_iff.1 hl
      subst this
      rw [hl] at hr
      simp [h0', hH', hH, ← hr, dig]
    | some d =>
      rw [hl] at hr
      have hne : l ≠ [] := by rintro rfl; cases hl
      have hpos : 0 < l.length := List.length_pos_iff.2 hne
      have hlast : l[l.length - 1]? = some d := by rw [← List.getLast?_eq_getElem?]; exact hl
      have hw := i64w (n := (l.length : Int) - 1) (by omega) (by omega)
      have ht : ((l.length : Int) - 1).toNat = l.length - 1 := by omega
      have hn0 : ¬ l.length = 0 := by omega
      have hn1 : ¬ (l.length : Int) - 1 < 0 := by omega
      simp [-getElem?_pos, h0', hH', hH, ← hr, hn0, hw, ht, hn1, hlast, hne]
      by_cases h : d = 0 <;> simp [h]
  · have hall : (l.all fun d => decide (d < 1000000000)) = false := by simpa using hx
    unfold rightD at hr
    rw [hall, Bool.false_and] at hr
    simp [h2, hH', hH, ← hr]

theorem rRight2_call {wl : Nat} (ng f : Bool) (l : List Nat) (H : Heap) (hH : 0 < H.length) (hb : l.length < 1000000000000) :
    E.call 73 wl [.agg [.bool ng, .lst f (dig l)]] H = some (.ret (.bool (rightN ng l)), H) := by
  refine (E_call Try.func73 rfl rfl (by kernel_rfl) rfl _ (by exact Nat.le_of_ble_eq_true rfl) H).trans ?_
  have hc := fun L1 : List Blk => rRight1_call (wl := wl) f l (L1 :: H) (by simp) hb
  unfold rightN
  cases hr : rightD l with
  | false => simp [Try.f73, hc, hr, hH]
  | true =>
    cases ng with
    | false => simp [Try.f73, hc, hr, hH]
    | true =>
      simp [Try.f73, hc, hr, hH]
      cases l <;> simp
end Go.GL.Seat

/-! Walks, O: the reference's sorts: constructors, functions, names (package whetstoneref04). -/
namespace Go.GL.Seat
open Go.Proofs
set_option maxRecDepth 100000
set_option maxHeartbeats 8000000

def conRes : Option (Dt × Cn) → List PV
  | some (d, c) => [c.enc, .str d.nm, .bool true]
  | none => [.agg [.str bNil, .lst true []], .str bNil, .bool false]

theorem findC_len {ds : List Dt} {nm : ByteArray} {d : Dt} {c : Cn} (hb : okD ds) (h : findC ds nm = some (d, c)) : c.fs.length < 1000000000000 := by
  have : ∀ l : List Dt, (∀ d ∈ l, d.cs.length < 1000000000000 ∧ ∀ c ∈ d.cs, c.fs.length < 1000000000000) → findC l nm = some (d, c) → c.fs.length < 1000000000000 := by
    intro l hl
    induction l with
    | nil => intro h; cases h
    | cons x l ih =>
      rw [findC]
      split
      · rename_i c' hc
        intro h
        injection h with h
        injection h with h1 h2
        subst h2
        exact (hl x List.mem_cons_self).2 _ (List.mem_of_find?_eq_some hc)
      · exact ih fun d hd => hl d (List.mem_cons_of_mem _ hd)
  exact this ds hb.2 h

theorem rCon_call {wl : Nat} (f : Bool) (ds : List Dt) (nm : ByteArray) (H : Heap) (hw : wl ≤ H.length) (hH : 0 < H.length) (hb : okD ds) :
    E.call 146 wl [.lst f (encD ds), .str nm] H = some (.ret (.tup (conRes (findC ds nm))), H) := by
  refine (E_call Try.func146 rfl rfl (by kernel_rfl) rfl _ (by exact Nat.le_of_ble_eq_true rfl) H).trans ?_
  obtain ⟨r, hr⟩ : ∃ r, findC ds nm = r := ⟨_, rfl⟩
  rw [hr]
  simp [Try.f146]
  generalize hz : run tab E wl (Code.loop _) _ = z
  obtain ⟨x, s', rfl, hx⟩ := loop_up (fun c s => E_loop) hz ds.length (fun i st => st.env 0 = .lst f (encD ds) ∧ st.env 1 = .str nm ∧ st.env 4 = .ptr H.length 0 0 ∧ st.env 7 = .int .i64 i ∧ st.H = H ∧ st.L = [.box [.str bNil, .lst true []]] ∧ r = findC (ds.drop i) nm)
    (fun x st => st.H = H ∧ st.env 4 = .ptr H.length 0 0 ∧ ((x = .exit 0 ∧ r = none ∧ st.L = [.box [.str bNil, .lst true []]]) ∨ (x = .ret ∧ ∃ d c, r = some (d, c) ∧ st.env 5 = .str d.nm ∧ st.env 6 = .bool true ∧ st.L[0]? = some (.box (cellsOf c.enc)))))
    ⟨by simp, by simp, by simp, by simp, by simp, by simp, by simp [hr]⟩ (by
      rintro i ⟨e, L, H'⟩ hi ⟨h0, h1, h4, h7, hHH, hL, hf⟩
      obtain ⟨d, hd⟩ : ∃ d, ds[i]? = some d := ⟨_, List.getElem?_eq_getElem hi⟩
      have hbd := hb.2 d (List.mem_of_getElem? hd)
      simp only [] at h0 h1 h4 h7 hHH hL
      subst hHH hL
      rw [findC_drop nm hd] at hf
      have hl0 := hb.1
      have hw2 := i64w (n := (i : Int) + 1) (by omega) (by omega)
      obtain ⟨dn, dcf, dcs⟩ := d
      simp only [] at hf hbd
      simp [-getElem?_pos, h0, h1, h4, h7, hd, hi, hw2, Dt.enc]
      generalize hz2 : run tab E wl (Code.loop _) _ = z2
      obtain ⟨x2, s2, rfl, hx2⟩ := loop_up (fun c s => E_loop) hz2 dcs.length (fun j st => st.env 0 = .lst f (encD ds) ∧ st.env 1 = .str nm ∧ st.env 4 = .ptr H'.length 0 0 ∧ st.env 7 = .int .i64 i ∧ st.env 8 = .int .i64 j ∧ st.H = H' ∧ st.L = [.box [.str bNil, .lst true []]] ∧ dcs.find? (fun c => decide (c.nm = nm)) = (dcs.drop j).find? (fun c => decide (c.nm = nm)))
        (fun x st => st.H = H' ∧ st.env 4 = .ptr H'.length 0 0 ∧ ((x = .exit 2 ∧ st.env 0 = .lst f (encD ds) ∧ st.env 1 = .str nm ∧ st.env 7 = .int .i64 i ∧ dcs.find? (fun c => decide (c.nm = nm)) = none ∧ st.L = [.box [.str bNil, .lst true []]]) ∨ (x = .ret ∧ ∃ c, dcs.find? (fun c => decide (c.nm = nm)) = some c ∧ st.env 5 = .str dn ∧ st.env 6 = .bool true ∧ st.L[0]? = some (.box (cellsOf c.enc)))))
        ⟨by simp [h0], by simp [h1], by simp [h4], by simp [h7], by simp, by simp, by simp, by simp⟩ (by
          rintro j ⟨e2, L2, H2⟩ hj ⟨g0, g1, g4, g7, g8, gH, gL, gf⟩
          obtain ⟨c, hc⟩ : ∃ c, dcs[j]? = some c := ⟨_, List.getElem?_eq_getElem hj⟩
          simp only [] at g0 g1 g4 g7 g8 gH gL
          subst gH gL
          rw [find_drop hc] at gf
          have hcl := hbd.1
          have hw3 := i64w (n := (j : Int) + 1) (by omega) (by omega)
          obtain ⟨cn, cff, cfs⟩ := c
          simp only [] at gf
          by_cases hck : cn = nm
          · subst hck
            simp at gf
            simp [-getElem?_pos, g0, g1, g4, g7, g8, hd, hc, hj, hw3, Dt.enc, Cn.enc, hw, gf]
            done
          · simp [hck] at gf
            simp [-getElem?_pos, g0, g1, g4, g7, g8, hd, hc, hj, hw3, Dt.enc, Cn.enc, hck, gf]) (by
          rintro ⟨e2, L2, H2⟩ ⟨g0, g1, g4, g7, g8, gH, gL, gf⟩
          simp only [] at g0 g1 g4 g7 g8 gH gL
          subst gH gL
          simp at gf
          simp [-getElem?_pos, g0, g1, g4, g7, g8, hd, Dt.enc]
          simpa using gf)
      obtain ⟨gH, g4, hx2⟩ := hx2
      rcases hx2 with ⟨rfl, g0, g1, g7, gf, gL⟩ | ⟨rfl, c, gf, g5, g6, gL⟩
      · rw [gf] at hf
        simp [g0, g1, g4, g7, gH, gL, hw2, hf]
      · rw [gf] at hf
        simp [g4, g5, g6, gH, gL, hf]
        exact ⟨_, c, ⟨rfl, rfl⟩, rfl, rfl⟩) (by
      rintro ⟨e, L, H'⟩ ⟨h0, h1, h4, h7, hHH, hL, hf⟩
      simp only [] at h0 h1 h4 h7 hHH hL
      subst hHH hL
      simp [findC] at hf
      simp [h0, h1, h4, h7, hf])
  obtain ⟨hHH, h4, hx⟩ := hx
  rcases hx with ⟨rfl, hr, hL⟩ | ⟨rfl, d, c, hr, h5, h6, hL⟩
  · simp [h4, hHH, hH, hL, hr, conRes]
  · obtain ⟨cn, cff, cfs⟩ := c
    simp [Cn.enc] at hL
    simp [h4, h5, h6, hHH, hH, hL, hr, conRes, Cn.enc]

theorem rFunction_call {wl : Nat} (fd : Bool) (ds : List Dt) (nm : ByteArray) (H : Heap) (hw : wl ≤ H.length) (hH : 0 < H.length) (hb : okD ds) (hn : nm.size < 1000000000000) :
    E.call 119 wl [.lst fd (encD ds), .str nm] H = some (.ret (.tup (fnRes (fnOf ds nm))), H) := by
  refine (E_call Try.func119 rfl rfl (by kernel_rfl) rfl _ (by exact Nat.le_of_ble_eq_true rfl) H).trans ?_
  by_cases htag : nm = bTag
  · subst htag
    simp [Try.f119, fnOf, fnRes, hH]
  have hat := i64w (n := (nm.size : Int) - 2) (by omega) (by omega)
  by_cases hs : nm.size < 2
  · have hd : dotted nm = false := by simp [dotted]; omega
    simp [Try.f119, htag, hat, show (nm.size : Int) < 2 by omega, show ¬ (2 : Int) ≤ nm.size by omega, fnOf, hd, fnRes, hH]
  obtain ⟨m, hm⟩ : ∃ m, nm.size = m + 2 := ⟨nm.size - 2, by omega⟩
  have hm2 : (nm.size : Int) - 2 = (m : Int) := by omega
  rw [hm2] at hat
  have hat1 := i64w (n := (m : Int) + 1) (by omega) (by omega)
  have e1 : ¬ (m : Int) < 0 := by omega
  have hat2 : IntKind.i64.wrap ((m : Int) + 2 - 1) = (m : Int) + 1 := by rw [i64w (by omega) (by omega)]; omega
  have e4 : (m : Int) + 1 < (m : Int) + 2 := by omega
  have e0 : (2 : Int) ≤ (m : Int) + 2 := by omega
  have e00 : ¬ (m : Int) + 2 < 2 := by omega
  have e2 : ((m : Int) + 1).toNat = m + 1 := by omega
  have e3 : (0 : Int) ≤ (m : Int) + 1 := by omega
  rcases Decidable.em (byteAt nm m = 46) with b0 | b0
  case inr =>
    have hd : dotted nm = false := by simp [dotted, hm, b0]
    have b0' : ¬ (byteAt nm m : Int) = 46 := by omega
    simp [Try.f119, htag, hm, hat, hat2, e4, e0, e00, e1, e2, e3, hat1, b0', fnOf, hd, fnRes, hH, hm2]
  have b0' : (byteAt nm m : Int) = 46 := by omega
  rcases Decidable.em (byteAt nm (m + 1) < 48) with b1 | b1
  case inl =>
    have hd : dotted nm = false := by simp [dotted, hm]; omega
    have b1' : ¬ (48 : Int) ≤ (byteAt nm (m + 1) : Int) := by omega
    have b1q : (byteAt nm (m + 1) : Int) < 48 := by omega
    simp [Try.f119, htag, hm, hat, hat2, e4, e0, e00, e1, e2, e3, hat1, b0', b1', b1q, fnOf, hd, fnRes, hH, hm2]
  have b1' : (48 : Int) ≤ (byteAt nm (m + 1) : Int) := by omega
  have b1q : ¬ (byteAt nm (m + 1) : Int) < 48 := by omega
  rcases Decidable.em (57 < byteAt nm (m + 1)) with b2 | b2
  case inl =>
    have hd : dotted nm = false := by simp [dotted, hm]; omega
    have b2' : ¬ (byteAt nm (m + 1) : Int) ≤ 57 := by omega
    have b2q : (57 : Int) < byteAt nm (m + 1) := by omega
    simp [Try.f119, htag, hm, hat, hat2, e4, e0, e00, e1, e2, e3, hat1, b0', b1', b1q, b2', b2q, fnOf, hd, fnRes, hH, hm2]
  have b2' : (byteAt nm (m + 1) : Int) ≤ 57 := by omega
  have b2q : ¬ (57 : Int) < byteAt nm (m + 1) := by omega
  have hd : dotted nm = true := by simp [dotted, hm, b0]; omega
  have hf : fnOf ds nm = match findC ds (nm.extract 0 m) with
    | some (d, c) => (c.fs[byteAt nm (m + 1) - 48]?).map fun s => (d.nm, s)
    | none => none := by
    unfold fnOf
    rw [if_neg htag, if_pos hd, hm]
    rfl
  obtain ⟨k, hk⟩ : ∃ k, byteAt nm (m + 1) = k + 48 := ⟨byteAt nm (m + 1) - 48, by omega⟩
  generalize hkey : nm.extract 0 m = key at hf
  have hcut : ¬ ((nm.size : Int) < (m : Int)) := by omega
  have hmm : (m : Int) ≤ (m : Int) + 2 := by omega
  have hwk := i64w (n := (k : Int)) (by omega) (by omega)
  have hu8 : IntKind.u8.wrap ((byteAt nm (m + 1) : Int) - 48) = (k : Int) := by
    rw [hk, IntKind.wrap_u8]; omega
  have hkk : byteAt nm (m + 1) - 48 = k := by omega
  rw [hkk] at hf
  have hc := fun L1 : List Blk => rCon_call (wl := wl) fd ds key (L1 :: H) (by simp; omega) (by simp) hb
  rw [hf]
  cases hfc : findC ds key with
  | none =>
    rw [hfc] at hc
    simp only [conRes] at hc
    simp [Try.f119, htag, hm, hat, hat2, e4, e0, e00, e1, e2, e3, hat1, b0', b1', b1q, b2', b2q, hm2, hkey, hmm, hc, hu8, hwk, fnRes, hH]
  | some dc =>
    obtain ⟨d, c⟩ := dc
    rw [hfc] at hc
    simp only [conRes] at hc
    have hmem : c.fs.length < 1000000000000 := findC_len hb hfc
    obtain ⟨cn, cff, cfs⟩ := c
    simp only [Cn.enc] at hc hmem
    cases hfk : cfs[k]? with
    | some y =>
      have hlt := (List.getElem?_eq_some_iff.1 hfk).1
      simp [-getElem?_pos, Try.f119, htag, hm, hat, hat2, e4, e0, e00, e1, e2, e3, hat1, b0', b1', b1q, b2', b2q, hm2, hkey, hmm, hc, hu8, hwk, fnRes, hH, hfk, hlt]
      rw [if_neg (by omega), if_neg (by omega)]
    | none =>
      have hge : cfs.length ≤ k := List.getElem?_eq_none_iff.1 hfk
      have hge' : (cfs.length : Int) ≤ k := by omega
      simp [-getElem?_pos, Try.f119, htag, hm, hat, hat2, e4, e0, e00, e1, e2, e3, hat1, b0', b1', b1q, b2', b2q, hm2, hkey, hmm, hc, hu8, hwk, fnRes, hH, hfk, hge]

/-- A name's sort. -/
def varS (ds : List Dt) (ss : List Sc) (nm : ByteArray) : Except Nat ByteArray := match lastS ss nm with
  | none => .error 21
  | some s => if isB ds s then .ok s else .error 23

theorem rname_call {wl : Nat} (fd : Bool) (ds : List Dt) (fs : Bool) (ss : List Sc) (nm : ByteArray) (H : Heap) (hH : 0 < H.length) (hb : okD ds) (hss : ss.length < 1000000000000) :
    E.call 74 wl [.lst fd (encD ds), .lst fs (encS ss), .str nm] H = some (.ret (triedS (varS ds ss nm)), H) := by
  refine (E_call Try.func74 rfl rfl (by kernel_rfl) rfl _ (by exact Nat.le_of_ble_eq_true rfl) H).trans ?_
  unfold varS
  obtain ⟨r, hr⟩ : ∃ r, lastS ss nm = r := ⟨_, rfl⟩
  rw [hr]
  have hw0 := i64w (n := (ss.length : Int) - 1) (by omega) (by omega)
  simp [Try.f74, hw0]
  generalize hz : run tab E wl (Code.loop _) _ = z
  obtain ⟨x, s', rfl, hx⟩ := loop_up (fun c s => E_loop) hz ss.length (fun i st => st.env 0 = .lst fd (encD ds) ∧ st.env 1 = .lst fs (encS ss) ∧ st.env 2 = .str nm ∧ st.env 8 = .int .i64 ((ss.length : Int) - 1 - i) ∧ st.H = H ∧ lastS (ss.take (ss.length - i)) nm = r)
    (fun x st => st.H = H ∧ ((x = .exit 0 ∧ r = none) ∨ (x = .ret ∧ ∃ s, r = some s ∧ .tup [st.env 6, st.env 7] = triedS (if isB ds s then .ok s else .error 23))))
    ⟨by simp, by simp, by simp, by simp, by simp, by simp [hr]⟩ (by
      rintro i ⟨e, L, H'⟩ hi ⟨h0, h1, h2, h8, hHH, hl⟩
      simp only [] at h0 h1 h2 h8 hHH
      subst hHH
      obtain ⟨j, hj⟩ : ∃ j, ss.length - i = j + 1 := ⟨ss.length - i - 1, by omega⟩
      have h8' : (ss.length : Int) - 1 - i = (j : Int) := by omega
      rw [h8'] at h8
      rw [hj] at hl
      obtain ⟨t, ht⟩ : ∃ t, ss[j]? = some t := ⟨_, List.getElem?_eq_getElem (by omega)⟩
      rw [lastS_take nm ht] at hl
      have hw2 := i64w (n := (j : Int) - 1) (by omega) (by omega)
      have hnx : (ss.length : Int) - 1 - ((i : Int) + 1) = (j : Int) - 1 := by omega
      have hnx2 : ss.length - (i + 1) = j := by omega
      have hjl : j < ss.length := by omega
      obtain ⟨tn, tso⟩ := t
      have hcb := fun (w2 : Nat) (L1 : List Blk) => rbase_call (wl := w2) fd ds tso (L1 :: H') (by simp) hb.1
      have hct := fun (w2 : Nat) (b : Bool) (L1 : List Blk) => rtold_call (wl := w2) tso b (L1 :: H') (by simp)
      by_cases hts : tn = nm
      · subst hts
        simp at hl
        cases hbs : isB ds tso with
        | true =>
          rw [hbs] at hcb
          simp [triedS] at hct
          simp [-getElem?_pos, h0, h1, h2, h8, ht, hjl, encS1, hcb, hct, ← hl, hbs, triedS]
        | false =>
          rw [hbs] at hcb
          simp [triedS] at hct
          simp [-getElem?_pos, h0, h1, h2, h8, ht, hjl, encS1, hcb, hct, ← hl, hbs, triedS]
      · simp [hts] at hl
        simp [-getElem?_pos, h0, h1, h2, h8, ht, hjl, encS1, hts, hw2, hnx, hnx2, hl]) (by
      rintro ⟨e, L, H'⟩ ⟨h0, h1, h2, h8, hHH, hl⟩
      simp only [] at h0 h1 h2 h8 hHH
      have h8' : (ss.length : Int) - 1 - ss.length = -1 := by omega
      rw [h8'] at h8
      simp [lastS] at hl
      simp [h0, h1, h2, h8, hHH, ← hl])
  obtain ⟨hHH, hx⟩ := hx
  rcases hx with ⟨rfl, rfl⟩ | ⟨rfl, s, rfl, h6⟩
  · simp [hHH, hH, triedS]
  · cases hbs : isB ds s with
    | true => simp [hbs, triedS] at h6; simp [hHH, hH, triedS, hbs, h6]
    | false => simp [hbs, triedS] at h6; simp [hHH, hH, triedS, hbs, h6]
end Go.GL.Seat

/-! Walks, P: the reference's sorts of terms (package whetstoneref04). -/
namespace Go.GL.Seat
open Go.Proofs
set_option maxRecDepth 100000
set_option maxHeartbeats 8000000

theorem isB_int (ds : List Dt) : isB ds bInt = true := by simp [isB]
theorem isB_bool (ds : List Dt) : isB ds bBool = true := by simp [isB]

theorem kindSort_isB {ds : List Dt} {k : Nat} {nm : ByteArray} {l : List ByteArray} {s : ByteArray} (h : kindSort ds k nm l = .ok s) : isB ds s = true := by
  unfold kindSort at h
  split at h
  · injection h with h; subst h; exact isB_int ds
  split at h
  · split at h
    · injection h with h; subst h; exact isB_int ds
    · cases h
  split at h
  · split at h
    · split at h
      · rename_i hc
        injection h with h
        subst h
        simp only [Bool.and_eq_true] at hc
        exact hc.2
      · cases h
    · cases h
  split at h
  · split at h
    · split at h
      · injection h with h; subst h; exact isB_bool ds
      · cases h
    · cases h
  split at h
  · split at h
    · injection h with h; subst h; exact isB_bool ds
    · cases h
  · split at h
    · injection h with h; subst h; exact isB_bool ds
    · cases h

theorem sort_isB {ds : List Dt} {ss : List Sc} {t : Tm} {s : ByteArray} (h : sortS ds ss t = .ok s) : isB ds s = true := by
  obtain ⟨k, nm, ng, df, dg, kf, ks⟩ := t
  by_cases hk : k = 1
  · subst hk
    rw [sortS] at h
    simp [many, manyOk] at h
    split at h
    · split at h
      · cases h
      · split at h
        · rename_i hb
          injection h with h
          subst h
          exact hb
        · cases h
    · cases h
  · obtain ⟨_, h2⟩ := kids_ok h
    obtain ⟨l, _, hl⟩ := h2 hk
    exact kindSort_isB hl

theorem rof_call {wl : Nat} (f : Bool) (ds : List Dt) (k : Nat) (nm : ByteArray) (ng df : Bool) (dg : List Nat) (kf : Bool) (ks : List Tm) (f2 : Bool) (l : List ByteArray) (H : Heap) (hw : wl ≤ H.length) (hH : 0 < H.length) (hb : okD ds) (hn : nm.size < 1000000000000) (hl : l.length < 1000000000000)
    {n : Option Nat} (hm : many k = some n) (hmo : manyOk n l.length = true) (hk1 : k ≠ 1) (hB : ∀ s ∈ l, isB ds s = true) :
    E.call 75 wl [.lst f (encD ds), (Tm.mk k nm ng df dg kf ks).enc, .lst f2 (encF l)] H = some (.ret (triedS (kindSort ds k nm l)), H) := by
  refine (E_call Try.func75 rfl rfl (by kernel_rfl) rfl _ (by exact Nat.le_of_ble_eq_true rfl) H).trans ?_
  have ca := fun (s : ByteArray) (L1 : List Blk) => rall_call (wl := wl) s f2 l (L1 :: H) (by simp) hl
  have ct := fun (w2 : Nat) (s : ByteArray) (b : Bool) (L1 : List Blk) => rtold_call (wl := w2) s b (L1 :: H) (by simp)
  have cd := fun (w2 : Nat) (s : ByteArray) (L1 : List Blk) => rData_call (wl := w2) f ds s (L1 :: H) (by simp) hb.1
  have cb := fun (s : ByteArray) (L1 : List Blk) => rbase_call (wl := wl) f ds s (L1 :: H) (by simp) hb.1
  have cf := fun (L1 : List Blk) => rFunction_call (wl := wl) f ds nm (L1 :: H) (by simp; omega) (by simp) hb hn
  obtain ⟨r, hr⟩ : ∃ r, triedS (kindSort ds k nm l) = r := ⟨_, rfl⟩
  rw [hr]
  simp only [kindSort] at hr
  have two : ∀ (p q : ByteArray → Bool), True := fun _ _ => trivial
  match k, hm, hk1, hr with
  | 0, hm, _, hr => simp [many] at hm
  | 1, _, hk1, _ => exact absurd rfl hk1
  | 2, hm, _, hr =>
    simp [triedS] at hr
    simp [Try.f75, Tm.enc, hH, ← hr]
  | 3, hm, _, hr | 4, hm, _, hr =>
    simp [many] at hm
    subst hm
    simp [manyOk] at hmo
    have hl0 : l = [] := List.eq_nil_of_length_eq_zero hmo.symm
    subst hl0
    simp [triedS] at hr
    simp [Try.f75, Tm.enc, hH, ← hr]
  | 5, hm, _, hr | 6, hm, _, hr =>
    simp only [triedS] at ct
    cases hall : l.all (fun x => decide (x = bInt)) with
    | true =>
      have ca2 := ca bInt
      rw [hall] at ca2 hr
      simp [triedS] at hr
      simp [Try.f75, Tm.enc, hH, ← hr, ca2, ct]
    | false =>
      have ca2 := ca bInt
      rw [hall] at ca2 hr
      simp [triedS] at hr
      simp [Try.f75, Tm.enc, hH, ← hr, ca2, ct]
  | 7, hm, _, hr =>
    simp [many] at hm
    subst hm
    simp [manyOk] at hmo
    obtain ⟨s, rfl⟩ : ∃ s, l = [s] := by
      match l, hmo with
      | [a], _ => exact ⟨a, rfl⟩
    simp only [triedS] at ct
    cases hf : fnOf ds nm with
    | none =>
      rw [hf] at hr cf
      simp [fnRes] at cf
      simp [triedS] at hr
      simp [Try.f75, Tm.enc, encF, hH, ← hr, cf, ct]
    | some q =>
      obtain ⟨q1, q2⟩ := q
      rw [hf] at hr cf
      simp [fnRes] at cf
      have cb2 := cb q2
      cases hb2 : isB ds q2 with
      | false =>
        rw [hb2] at cb2
        simp [triedS, hb2] at hr
        simp [Try.f75, Tm.enc, encF, hH, ← hr, cf, ct, cb2]
      | true =>
        rw [hb2] at cb2
        have cd1 := fun w2 => cd w2 s
        by_cases htag : nm = bTag
        · rw [htag] at cf
          cases hds : isD ds s with
          | true =>
            simp [triedS, htag, hds, hb2] at hr
            simp [Try.f75, Tm.enc, encF, hH, ← hr, cf, ct, cb2, htag, cd1, hds]
          | false =>
            simp [triedS, htag, hds, hb2] at hr
            simp [Try.f75, Tm.enc, encF, hH, ← hr, cf, ct, cb2, htag, cd1, hds]
        · by_cases hq : q1 = s
          · subst hq
            cases hds : isD ds q1 with
            | true =>
              simp [triedS, htag, hds, hb2] at hr
              simp [Try.f75, Tm.enc, encF, hH, ← hr, cf, ct, cb2, htag, cd1, hds]
            | false =>
              simp [triedS, htag, hds, hb2] at hr
              simp [Try.f75, Tm.enc, encF, hH, ← hr, cf, ct, cb2, htag, cd1, hds]
          · simp [triedS, htag, hq, hb2] at hr
            simp [Try.f75, Tm.enc, encF, hH, ← hr, cf, ct, cb2, htag, hq]
  | 8, hm, _, hr =>
    simp [many] at hm
    subst hm
    simp [manyOk] at hmo
    obtain ⟨s, t, rfl⟩ : ∃ s t, l = [s, t] := by
      match l, hmo with
      | [a, b], _ => exact ⟨a, b, rfl⟩
    simp only [triedS] at ct
    have hBs := hB s (by simp)
    have cd1 := fun w2 => cd w2 s
    by_cases h1 : s = t
    · subst h1
      by_cases hi : s = bInt
      · simp [triedS, hi] at hr
        simp [Try.f75, Tm.enc, encF, hH, ← hr, ct, hi]
      · by_cases hbo : s = bBool
        · have : isD ds s = false := by subst hbo; simp [isD]
          rw [this] at cd1
          simp [triedS, hbo] at hr
          rw [hbo] at cd1
          simp [Try.f75, Tm.enc, encF, hH, ← hr, ct, hbo, cd1]
        · have : isD ds s = true := by
            unfold isB at hBs
            simpa [hi, hbo] using hBs
          rw [this] at cd1
          simp [triedS, hbo] at hr
          simp [Try.f75, Tm.enc, encF, hH, ← hr, ct, hbo, hi, cd1]
    · simp [triedS, h1] at hr
      simp [Try.f75, Tm.enc, encF, hH, ← hr, ct, h1]
  | 9, hm, _, hr =>
    simp only [triedS] at ct
    cases hall : l.all (fun x => decide (x = bInt)) with
    | true =>
      have ca2 := ca bInt
      rw [hall] at ca2 hr
      simp [triedS] at hr
      simp [Try.f75, Tm.enc, hH, ← hr, ca2, ct]
    | false =>
      have ca2 := ca bInt
      rw [hall] at ca2 hr
      simp [triedS] at hr
      simp [Try.f75, Tm.enc, hH, ← hr, ca2, ct]
  | 10, hm, _, hr | 11, hm, _, hr | 12, hm, _, hr | 13, hm, _, hr =>
    simp only [triedS] at ct
    cases hall : l.all (fun x => decide (x = bBool)) with
    | true =>
      have ca2 := ca bBool
      rw [hall] at ca2 hr
      simp [triedS] at hr
      simp [Try.f75, Tm.enc, hH, ← hr, ca2, ct]
    | false =>
      have ca2 := ca bBool
      rw [hall] at ca2 hr
      simp [triedS] at hr
      simp [Try.f75, Tm.enc, hH, ← hr, ca2, ct]
  | k + 14, hm, _, hr =>
    have m : many (k + 14) = none := by
      unfold many
      repeat rw [if_neg (by omega)]
    rw [m] at hm
    cases hm

theorem sorts_isB {ds : List Dt} {ss : List Sc} {ks : List Tm} {l : List ByteArray} (h : sortsS ds ss ks = .ok l) : ∀ s ∈ l, isB ds s = true := by
  intro s hs
  obtain ⟨i, hi⟩ := List.getElem?_of_mem hs
  have hlt := (List.getElem?_eq_some_iff.1 hi).1
  rw [sorts_length h] at hlt
  obtain ⟨s1, h1, h2⟩ := sorts_get h (i := i) (List.getElem?_eq_getElem hlt)
  rw [hi] at h1
  injection h1 with h1
  subst h1
  exact sort_isB h2

def bndT (ds : List Dt) (ss : List Sc) : Prop := okD ds ∧ ss.length < 1000000000000

theorem kindSort_err {ds : List Dt} {k : Nat} {nm : ByteArray} {l : List ByteArray} {e : Nat} (h : kindSort ds k nm l = .error e) : e = 23 := by
  unfold kindSort at h
  split at h
  · cases h
  split at h
  · split at h
    · cases h
    · injection h with h; exact h.symm
  split at h
  · split at h
    · split at h
      · cases h
      · injection h with h; exact h.symm
    · injection h with h; exact h.symm
  split at h
  · split at h
    · split at h
      · cases h
      · injection h with h; exact h.symm
    · injection h with h; exact h.symm
  split at h
  · split at h
    · cases h
    · injection h with h; exact h.symm
  · split at h
    · cases h
    · injection h with h; exact h.symm

mutual
theorem sort_err {ds : List Dt} {ss : List Sc} : ∀ {t : Tm} {e : Nat}, sortS ds ss t = .error e → e ≠ 0
  | .mk k nm ng df dg kf ks, e, h => by
    rw [sortS] at h
    split at h
    · injection h with h; omega
    split at h
    · injection h with h; omega
    split at h
    · injection h with h; omega
    split at h
    · split at h
      · injection h with h; omega
      · split at h
        · cases h
        · injection h with h; omega
    · split at h
      · have := kindSort_err h; omega
      · rename_i e' he
        injection h with h
        subst h
        exact sorts_err he
theorem sorts_err {ds : List Dt} {ss : List Sc} : ∀ {l : List Tm} {e : Nat}, sortsS ds ss l = .error e → e ≠ 0
  | [], e, h => by simp [sortsS] at h
  | t :: ts, e, h => by
    rw [sortsS] at h
    split at h
    · rename_i e' he
      injection h with h
      subst h
      exact sort_err he
    · split at h
      · rename_i e' he
        injection h with h
        subst h
        exact sorts_err he
      · cases h
end

theorem rsort_loop {wl : Nat} {fd : Bool} {ds : List Dt} {fs : Bool} {ss : List Sc} {k : Nat} {nm : ByteArray} {ng df : Bool} {dg : List Nat} {kf : Bool} {ks : List Tm}
    (hks : ∀ t ∈ ks, ∀ H : Heap, wl ≤ H.length → 0 < H.length → E.call 24 wl [.lst fd (encD ds), .lst fs (encS ss), t.enc] H = some (.ret (triedS (sortS ds ss t)), H)) (hlen : ks.length < 1000000000000)
    (st : St) {H : Heap} (h0 : st.env 0 = .lst fd (encD ds)) (h1 : st.env 1 = .lst fs (encS ss)) (h5 : st.env 5 = .ptr H.length 0 0) (h9 : st.env 9 = .lst true []) (h10 : st.env 10 = .int .i64 0) (hH : st.H = H) (hw : wl ≤ H.length) (hL0 : st.L[0]? = some (.box (cellsOf (Tm.mk k nm ng df dg kf ks).enc)))
    {z : Option (Ex × St)} (hz : run tab E wl (.loop (loopAt Try.f24 0)) st = z) : ∃ x s', z = some (x, s') ∧ s'.H = H ∧ ((x = .ret ∧ ∃ e, sortsS ds ss ks = .error e ∧ s'.env 6 = .str bNil ∧ s'.env 7 = .int .i64 (e : Nat)) ∨
      (x = .exit 0 ∧ ∃ l, sortsS ds ss ks = .ok l ∧ Row H.length s' (s'.env 9) l ∧ s'.env 0 = .lst fd (encD ds) ∧ s'.env 5 = .ptr H.length 0 0 ∧ s'.L[0]? = some (.box (cellsOf (Tm.mk k nm ng df dg kf ks).enc)))) := by
  simp only [Tm.enc, cellsOf] at hL0 ⊢
  refine loop_up (fun c s => E_loop) hz ks.length (fun i st => ∃ l : List ByteArray, l.length = i ∧ sortsS ds ss ks = andThen l (sortsS ds ss (ks.drop i)) ∧ Row H.length st (st.env 9) l ∧ st.env 0 = .lst fd (encD ds) ∧ st.env 1 = .lst fs (encS ss) ∧ st.env 5 = .ptr H.length 0 0 ∧ st.env 10 = .int .i64 i ∧ st.H = H ∧ st.L[0]? = some (.box [.int .u8 k, .str nm, .bool ng, .lst df (dig dg), .lst kf (encs ks)]))
    (fun x s' => s'.H = H ∧ ((x = .ret ∧ ∃ e, sortsS ds ss ks = .error e ∧ s'.env 6 = .str bNil ∧ s'.env 7 = .int .i64 (e : Nat)) ∨
      (x = .exit 0 ∧ ∃ l, sortsS ds ss ks = .ok l ∧ Row H.length s' (s'.env 9) l ∧ s'.env 0 = .lst fd (encD ds) ∧ s'.env 5 = .ptr H.length 0 0 ∧ s'.L[0]? = some (.box [.int .u8 k, .str nm, .bool ng, .lst df (dig dg), .lst kf (encs ks)]))))
    ⟨[], rfl, ?_, .inl ⟨rfl, h9⟩, h0, h1, h5, h10, hH, hL0⟩ ?_ ?_
  · simp only [List.drop_zero]
    cases sortsS ds ss ks <;> rfl
  · rintro i ⟨e, L, H'⟩ hi ⟨l, hl, hso, hrow, g0, g1, g5, g10, gH, gL⟩
    obtain ⟨t, ht⟩ : ∃ t, ks[i]? = some t := ⟨_, List.getElem?_eq_getElem hi⟩
    rw [sorts_drop ds ss ht] at hso
    simp at g0 g1 g5 g10 gH gL
    subst gH
    have hc := fun L1 : List Blk => hks t (List.mem_of_getElem? ht) (L1 :: H') (by simp; omega) (by simp)
    have hw2 := i64w (n := (i : Int) + 1) (by omega) (by omega)
    obtain ⟨tk, tn, tg, tf, td, tkf, tks⟩ := t
    simp only [Tm.enc] at hc
    cases hst : sortS ds ss (.mk tk tn tg tf td tkf tks) with
    | error er =>
      have he := sort_err hst
      rw [hst] at hso hc
      simp only [triedS] at hc
      simp [-getElem?_pos, loopAt, loopsOf, bodyOf, Try.f24, g0, g1, g5, g10, gL, ht, hi, Tm.enc, hc, he]
      exact ⟨er, hso, rfl⟩
    | ok so =>
      rw [hst] at hso hc
      simp only [triedS] at hso hc
      rcases hrow with ⟨rfl, h6⟩ | ⟨hne, kk, h6, hkk⟩
      · simp at hl h6
        subst hl
        simp [-getElem?_pos, loopAt, loopsOf, bodyOf, Try.f24, g0, g1, g5, g10, gL, ht, hi, Tm.enc, hc, h6, lim]
        refine ⟨[so], rfl, by simpa using hso, .inr ⟨by simp, L.length + 1, by simp, ?_⟩, app_old gL⟩
        simp [encF]
      · simp at h6 hkk
        have hkl := (List.getElem?_eq_some_iff.1 hkk).1
        have hk0 : kk ≠ 0 := by
          rintro rfl
          rw [hkk] at gL
          cases gL
        have hlm : (i + 1) * 16 ≤ lim := by unfold lim; omega
        simp [-getElem?_pos, loopAt, loopsOf, bodyOf, Try.f24, g0, g1, g5, g10, gL, ht, hi, Tm.enc, hc, h6, app_old hkk, hw2, hl, hlm]
        refine ⟨l ++ [so], by simp [hl], hso, .inr ⟨by simp, kk, by simp [hl], ?_⟩, by rw [List.getElem?_set_ne hk0]; exact app_old gL⟩
        simp only []
        rw [List.getElem?_set_self (by simp; omega)]
        simp [encF]
  · rintro ⟨e, L, H'⟩ ⟨l, hl, hso, hrow, g0, g1, g5, g10, gH, gL⟩
    simp only [] at g0 g1 g5 g10 gH gL
    simp [loopAt, loopsOf, bodyOf, Try.f24, g0, g1, g5, g10, gH, gL]
    refine ⟨l, ?_, hrow⟩
    rw [hso]; simp [sortsS, andThen]

theorem rsort_call (n : Nat) : ∀ {wl : Nat} (t : Tm), t.bulk ≤ n → n < 100000000000 → ∀ {fd : Bool} {ds : List Dt} {fs : Bool} {ss : List Sc} (H : Heap), okD ds → ss.length < 1000000000000 → wl ≤ H.length → 0 < H.length →
    E.call 24 wl [.lst fd (encD ds), .lst fs (encS ss), t.enc] H = some (.ret (triedS (sortS ds ss t)), H) := by
  induction n using Nat.strongRecOn with
  | _ n ih =>
  intro wl t hn hb fd ds fs ss H hds hss hw hH
  refine (E_call Try.func24 rfl rfl (by kernel_rfl) rfl _ (by exact Nat.le_of_ble_eq_true rfl) H).trans ?_
  obtain ⟨k, nm, ng, df, dg, kf, ks⟩ := t
  simp only [Tm.bulk] at hn
  have hkl := bulks_length ks
  have ck := fun L1 : List Blk => rkids_call (wl := wl) k (L1 :: H) (by simp)
  have cr := fun L1 : List Blk => rRight2_call (wl := wl) ng df dg (L1 :: H) (by simp) (by omega)
  have cn := fun L1 : List Blk => rname_call (wl := wl) fd ds fs ss nm (L1 :: H) (by simp) hds hss
  have co := fun (n : Option Nat) (hm : many k = some n) (l : List ByteArray) (hmo : manyOk n l.length = true) (hk1 : k ≠ 1) (hB : ∀ s ∈ l, isB ds s = true) (f2 : Bool) (hll : l.length < 1000000000000) (L1 : List Blk) =>
    rof_call (wl := wl) fd ds k nm ng df dg kf ks f2 l (L1 :: H) (by simp; omega) (by simp) hds (by omega) hll hm hmo hk1 hB
  simp only [Tm.enc] at co
  obtain ⟨r, hr⟩ : ∃ r, triedS (sortS ds ss (.mk k nm ng df dg kf ks)) = r := ⟨_, rfl⟩
  rw [hr]
  rw [sortS] at hr
  have c : ∀ a : Int, (k : Int) ≠ a → ((k : Int) == a) = false := fun a h => by rw [beq_eq_false_iff_ne]; exact h
  cases hm : many k with
  | none =>
    rw [hm] at ck hr
    simp [triedS] at hr
    simp only [kidN] at ck
    simp [Try.f24, Tm.enc, ck, ← hr, hH]
  | some n0 =>
    rw [hm] at ck hr
    cases hmo : manyOk n0 ks.length with
    | false =>
      obtain ⟨a, rfl⟩ : ∃ a, n0 = some a := by
        cases n0 with
        | none => simp [manyOk] at hmo
        | some a => exact ⟨a, rfl⟩
      simp only [hmo] at hr
      simp [triedS] at hr
      simp [manyOk] at hmo
      have hne : ¬ ((ks.length : Int) = a) := by omega
      have hna : ¬ ((a : Int) = -2) := by omega
      have hne2 : ((a : Int) == -2) = false := by rw [beq_eq_false_iff_ne]; exact hna
      simp only [kidN] at ck
      simp [Try.f24, Tm.enc, ck, ← hr, hH, hne, hne2, hna]
      done
    | true =>
      simp only [hmo, Bool.true_eq_false, if_false] at hr
      obtain ⟨v, hv, hv1, hv2, hv3⟩ : ∃ v : Int, kidN (some n0) = v ∧ (v == -2) = false ∧ v ≠ -2 ∧ (v ≥ 0 → (ks.length : Int) = v) := by
        cases n0 with
        | none => exact ⟨-1, rfl, rfl, by omega, fun h => by omega⟩
        | some a =>
          simp [manyOk] at hmo
          exact ⟨a, rfl, by rw [beq_eq_false_iff_ne]; omega, by omega, fun h => by omega⟩
      rw [hv] at ck
      have hgo : ((if 0 ≤ v then (!((ks.length : Int) == v)) else false) : Bool) = false := by
        split
        · rename_i h0
          simp [hv3 h0]
        · rfl
      by_cases h26 : (k = 2 ∨ k = 6) ∧ rightN ng dg = false
      · rw [if_pos h26] at hr
        simp [triedS] at hr
        obtain ⟨hk26, hrn⟩ := h26
        rw [hrn] at cr
        by_cases h0 : 0 ≤ v
        · have hv4 := hv3 h0
          rcases hk26 with rfl | rfl <;> simp at ck <;> simp [Try.f24, Tm.enc, ck, cr, ← hr, hH, hv1, hv2, h0, hv4]
        · rcases hk26 with rfl | rfl <;> simp at ck <;> simp [Try.f24, Tm.enc, ck, cr, ← hr, hH, hv1, hv2, h0]
      rw [if_neg h26] at hr
      by_cases hk1 : k = 1
      · subst hk1
        rw [if_pos rfl] at hr
        change triedS (varS ds ss nm) = r at hr
        obtain ⟨o, ho⟩ : ∃ o, triedS (varS ds ss nm) = o := ⟨_, rfl⟩
        rw [ho] at cn hr
        subst hr
        obtain ⟨o1, o2, rfl⟩ : ∃ (o1 : ByteArray) (o2 : Int), o = .tup [.str o1, .int .i64 o2] := by
          rw [← ho]
          cases varS ds ss nm <;> exact ⟨_, _, rfl⟩
        simp at ck
        by_cases h0 : 0 ≤ v
        · have hv4 := hv3 h0
          simp [Try.f24, Tm.enc, ck, cn, hH, hv1, hv2, h0, hv4]
          done
        · simp [Try.f24, Tm.enc, ck, cn, hH, hv1, hv2, h0]
          done
      rw [if_neg hk1] at hr
      have c1 := c 1 (by omega)
      have hloop := fun st z h0 h1 h5 h9 h10 hH' hL0 hz => rsort_loop (wl := wl) (fd := fd) (ds := ds) (fs := fs) (ss := ss) (k := k) (nm := nm) (ng := ng) (df := df) (dg := dg) (kf := kf) (ks := ks)
        (fun t ht H' hw' hH' => ih t.bulk (by have := bulks_mem ht; omega) t (Nat.le_refl _) (by have := bulks_mem ht; omega) H' hds hss hw' hH') (by omega) st (H := H) h0 h1 h5 h9 h10 hH' hw hL0 (z := z) hz
      simp only [Tm.enc, cellsOf] at hloop
      have cof := fun (l : List ByteArray) (hl : sortsS ds ss ks = .ok l) (f2 : Bool) (L1 : List Blk) => co n0 hm l (by rw [sorts_length hl]; exact hmo) hk1 (sorts_isB hl) f2 (by rw [sorts_length hl]; omega) L1
      clear co
      by_cases h0 : 0 ≤ v
      · have hv4 := hv3 h0
        by_cases hk26 : k = 2 ∨ k = 6
        · have hrn : rightN ng dg = true := by
            cases h : rightN ng dg with
            | true => rfl
            | false => exact absurd ⟨hk26, h⟩ h26
          rw [hrn] at cr
          rcases hk26 with rfl | rfl
          · simp at ck
            simp [-getElem?_pos, Try.f24, Tm.enc, ck, cr, hH, hv1, hv2, h0, hv4]
            generalize hz : run tab E wl (Code.loop _) _ = z
            obtain ⟨x, s', rfl, hHH, hx⟩ := hloop _ _ (by simp) (by simp) (by simp) (by simp) (by simp) (by simp) (by simp) hz
            rcases hx with ⟨rfl, e, he, h6, h7⟩ | ⟨rfl, l, hl, hrow, g0, g5, gL⟩
            · rw [he] at hr
              simp [triedS] at hr
              simp [hHH, h6, h7, hH, ← hr]
            · rw [hl] at hr
              have cof2 := cof l hl
              obtain ⟨o, ho⟩ : ∃ o, triedS (kindSort ds 2 nm l) = o := ⟨_, rfl⟩
              change triedS (kindSort ds 2 nm l) = r at hr
              rw [ho] at cof2 hr
              subst hr
              obtain ⟨o1, o2, rfl⟩ : ∃ (o1 : ByteArray) (o2 : Int), o = .tup [.str o1, .int .i64 o2] := by
                rw [← ho]
                cases kindSort ds 2 nm l <;> exact ⟨_, _, rfl⟩
              simp at cof2 gL
              rcases hrow with ⟨rfl, h9⟩ | ⟨hne, kk, h9, hkk⟩
              · simp [encF] at cof2
                simp [-getElem?_pos, hHH, g0, g5, h9, gL, hH, cof2]
              · simp [-getElem?_pos, hHH, g0, g5, h9, gL, hkk, hH, cof2]
          · simp at ck
            simp [-getElem?_pos, Try.f24, Tm.enc, ck, cr, hH, hv1, hv2, h0, hv4]
            generalize hz : run tab E wl (Code.loop _) _ = z
            obtain ⟨x, s', rfl, hHH, hx⟩ := hloop _ _ (by simp) (by simp) (by simp) (by simp) (by simp) (by simp) (by simp) hz
            rcases hx with ⟨rfl, e, he, h6, h7⟩ | ⟨rfl, l, hl, hrow, g0, g5, gL⟩
            · rw [he] at hr
              simp [triedS] at hr
              simp [hHH, h6, h7, hH, ← hr]
            · rw [hl] at hr
              have cof2 := cof l hl
              obtain ⟨o, ho⟩ : ∃ o, triedS (kindSort ds 6 nm l) = o := ⟨_, rfl⟩
              change triedS (kindSort ds 6 nm l) = r at hr
              rw [ho] at cof2 hr
              subst hr
              obtain ⟨o1, o2, rfl⟩ : ∃ (o1 : ByteArray) (o2 : Int), o = .tup [.str o1, .int .i64 o2] := by
                rw [← ho]
                cases kindSort ds 6 nm l <;> exact ⟨_, _, rfl⟩
              simp at cof2 gL
              rcases hrow with ⟨rfl, h9⟩ | ⟨hne, kk, h9, hkk⟩
              · simp [encF] at cof2
                simp [-getElem?_pos, hHH, g0, g5, h9, gL, hH, cof2]
              · simp [-getElem?_pos, hHH, g0, g5, h9, gL, hkk, hH, cof2]
        · have c2 := c 2 (by omega)
          have c6 := c 6 (by omega)
          simp [-getElem?_pos, Try.f24, Tm.enc, ck, cr, hH, hv1, hv2, h0, hv4, c1, c2, c6]
          generalize hz : run tab E wl (Code.loop _) _ = z
          obtain ⟨x, s', rfl, hHH, hx⟩ := hloop _ _ (by simp) (by simp) (by simp) (by simp) (by simp) (by simp) (by simp) hz
          rcases hx with ⟨rfl, e, he, h6, h7⟩ | ⟨rfl, l, hl, hrow, g0, g5, gL⟩
          · rw [he] at hr
            simp [triedS] at hr
            simp [hHH, h6, h7, hH, ← hr]
          · rw [hl] at hr
            have cof2 := cof l hl
            obtain ⟨o, ho⟩ : ∃ o, triedS (kindSort ds k nm l) = o := ⟨_, rfl⟩
            change triedS (kindSort ds k nm l) = r at hr
            rw [ho] at cof2 hr
            subst hr
            obtain ⟨o1, o2, rfl⟩ : ∃ (o1 : ByteArray) (o2 : Int), o = .tup [.str o1, .int .i64 o2] := by
              rw [← ho]
              cases kindSort ds k nm l <;> exact ⟨_, _, rfl⟩
            simp at cof2 gL
            rcases hrow with ⟨rfl, h9⟩ | ⟨hne, kk, h9, hkk⟩
            · simp [encF] at cof2
              simp [-getElem?_pos, hHH, g0, g5, h9, gL, hH, cof2]
            · simp [-getElem?_pos, hHH, g0, g5, h9, gL, hkk, hH, cof2]
      · by_cases hk26 : k = 2 ∨ k = 6
        · have hrn : rightN ng dg = true := by
            cases h : rightN ng dg with
            | true => rfl
            | false => exact absurd ⟨hk26, h⟩ h26
          rw [hrn] at cr
          rcases hk26 with rfl | rfl
          · simp at ck
            simp [-getElem?_pos, Try.f24, Tm.enc, ck, cr, hH, hv1, hv2, h0]
            generalize hz : run tab E wl (Code.loop _) _ = z
            obtain ⟨x, s', rfl, hHH, hx⟩ := hloop _ _ (by simp) (by simp) (by simp) (by simp) (by simp) (by simp) (by simp) hz
            rcases hx with ⟨rfl, e, he, h6, h7⟩ | ⟨rfl, l, hl, hrow, g0, g5, gL⟩
            · rw [he] at hr
              simp [triedS] at hr
              simp [hHH, h6, h7, hH, ← hr]
            · rw [hl] at hr
              have cof2 := cof l hl
              obtain ⟨o, ho⟩ : ∃ o, triedS (kindSort ds 2 nm l) = o := ⟨_, rfl⟩
              change triedS (kindSort ds 2 nm l) = r at hr
              rw [ho] at cof2 hr
              subst hr
              obtain ⟨o1, o2, rfl⟩ : ∃ (o1 : ByteArray) (o2 : Int), o = .tup [.str o1, .int .i64 o2] := by
                rw [← ho]
                cases kindSort ds 2 nm l <;> exact ⟨_, _, rfl⟩
              simp at cof2 gL
              rcases hrow with ⟨rfl, h9⟩ | ⟨hne, kk, h9, hkk⟩
              · simp [encF] at cof2
                simp [-getElem?_pos, hHH, g0, g5, h9, gL, hH, cof2]
              · simp [-getElem?_pos, hHH, g0, g5, h9, gL, hkk, hH, cof2]
          · simp at ck
            simp [-getElem?_pos, Try.f24, Tm.enc, ck, cr, hH, hv1, hv2, h0]
            generalize hz : run tab E wl (Code.loop _) _ = z
            obtain ⟨x, s', rfl, hHH, hx⟩ := hloop _ _ (by simp) (by simp) (by simp) (by simp) (by simp) (by simp) (by simp) hz
            rcases hx with ⟨rfl, e, he, h6, h7⟩ | ⟨rfl, l, hl, hrow, g0, g5, gL⟩
            · rw [he] at hr
              simp [triedS] at hr
              simp [hHH, h6, h7, hH, ← hr]
            · rw [hl] at hr
              have cof2 := cof l hl
              obtain ⟨o, ho⟩ : ∃ o, triedS (kindSort ds 6 nm l) = o := ⟨_, rfl⟩
              change triedS (kindSort ds 6 nm l) = r at hr
              rw [ho] at cof2 hr
              subst hr
              obtain ⟨o1, o2, rfl⟩ : ∃ (o1 : ByteArray) (o2 : Int), o = .tup [.str o1, .int .i64 o2] := by
                rw [← ho]
                cases kindSort ds 6 nm l <;> exact ⟨_, _, rfl⟩
              simp at cof2 gL
              rcases hrow with ⟨rfl, h9⟩ | ⟨hne, kk, h9, hkk⟩
              · simp [encF] at cof2
                simp [-getElem?_pos, hHH, g0, g5, h9, gL, hH, cof2]
              · simp [-getElem?_pos, hHH, g0, g5, h9, gL, hkk, hH, cof2]
        · have c2 := c 2 (by omega)
          have c6 := c 6 (by omega)
          simp [-getElem?_pos, Try.f24, Tm.enc, ck, cr, hH, hv1, hv2, h0, c1, c2, c6]
          generalize hz : run tab E wl (Code.loop _) _ = z
          obtain ⟨x, s', rfl, hHH, hx⟩ := hloop _ _ (by simp) (by simp) (by simp) (by simp) (by simp) (by simp) (by simp) hz
          rcases hx with ⟨rfl, e, he, h6, h7⟩ | ⟨rfl, l, hl, hrow, g0, g5, gL⟩
          · rw [he] at hr
            simp [triedS] at hr
            simp [hHH, h6, h7, hH, ← hr]
          · rw [hl] at hr
            have cof2 := cof l hl
            obtain ⟨o, ho⟩ : ∃ o, triedS (kindSort ds k nm l) = o := ⟨_, rfl⟩
            change triedS (kindSort ds k nm l) = r at hr
            rw [ho] at cof2 hr
            subst hr
            obtain ⟨o1, o2, rfl⟩ : ∃ (o1 : ByteArray) (o2 : Int), o = .tup [.str o1, .int .i64 o2] := by
              rw [← ho]
              cases kindSort ds k nm l <;> exact ⟨_, _, rfl⟩
            simp at cof2 gL
            rcases hrow with ⟨rfl, h9⟩ | ⟨hne, kk, h9, hkk⟩
            · simp [encF] at cof2
              simp [-getElem?_pos, hHH, g0, g5, h9, gL, hH, cof2]
            · simp [-getElem?_pos, hHH, g0, g5, h9, gL, hkk, hH, cof2]
end Go.GL.Seat

/-! Walks, Q: the reference's pushing at towers (package whetstoneref07). -/
namespace Go.GL.Seat
open Go.Proofs
set_option maxRecDepth 100000
set_option maxHeartbeats 8000000

theorem rcapped_call {wl : Nat} (n : Nat) (H : Heap) (hH : 0 < H.length) : E.call 77 wl [.int .i64 n] H = some (.ret (.int .i64 (min n 20001 : Nat)), H) := by
  refine (E_call Try.func77 rfl rfl (by kernel_rfl) rfl _ (by exact Nat.le_of_ble_eq_true rfl) H).trans ?_
  simp [Try.f77, hH]
  split <;> omega

theorem rSize_call {wl : Nat} (n : Nat) : ∀ (f : Bool) (l : List Tm) (H : Heap), sizes l ≤ n → n < 1000000000000 → 0 < H.length → E.call 76 wl [.lst f (encs l)] H = some (.ret (.int .i64 (sizes l)), H) := by
  induction n using Nat.strongRecOn with
  | _ n ih =>
  intro f l H hn hb hH
  refine (E_call Try.func76 rfl rfl (by kernel_rfl) rfl _ (by exact Nat.le_of_ble_eq_true rfl) H).trans ?_
  simp [Try.f76]
  generalize hz : run tab E wl (Code.loop _) _ = z
  obtain ⟨x, s', rfl, hx, h3, hH'⟩ := loop_up (fun c s => E_loop) hz l.length (fun i s => s.env 0 = .lst f (encs l) ∧ s.env 4 = .int .i64 i ∧ s.env 3 = .int .i64 (i + ((ksz l).take i).sum : Nat) ∧ s.H = H)
    (fun x s => x = .exit 0 ∧ s.env 3 = .int .i64 (sizes l) ∧ s.H = H) (by simp) (by
      rintro i ⟨e, L, H'⟩ hi ⟨h0, h4, h3, rfl⟩
      obtain ⟨t, ht⟩ : ∃ t, l[i]? = some t := ⟨_, List.getElem?_eq_getElem hi⟩
      have hk := sizes_kid ht
      have hs := sum_succ (ksz l) i (sizes t.ks) (by simp [ksz, ht])
      have hl := take_le (ksz l) (i + 1)
      have he := sizes_eq l
      have hc := ih (sizes t.ks) (by omega) t.kf t.ks
      obtain ⟨tk, tn, tg, tf, td, tkf, tks⟩ := t
      simp only [Tm.ks, Tm.kf] at *
      obtain ⟨a, ha⟩ : ∃ a, ((ksz l).take i).sum = a := ⟨_, rfl⟩
      rw [ha] at h3 hs
      have hi2 : i < l.length := hi
      have hw1 : IntKind.i64.wrap ((i : Int) + a + 1) = (i : Int) + a + 1 := i64w (by omega) (by omega)
      have hw : IntKind.i64.wrap ((i : Int) + a + 1 + sizes tks) = (i : Int) + a + 1 + sizes tks := i64w (by omega) (by omega)
      have hw2 := i64w (n := (i : Int) + 1) (by omega) (by omega)
      simp [-getElem?_pos, h0, h4, h3, ht, Tm.enc, hi, hc, hw1, hw, hw2, Nat.le_refl, hs, show sizes tks < 1000000000000 by omega]
      omega) (by
      rintro ⟨e, L, H'⟩ ⟨h0, h4, h3, rfl⟩
      simp at h0 h4 h3
      simp [h0, h4, h3, sizes_eq]
      simp [ksz, List.take_of_length_le])
  subst hx
  simp [h3, hH', hH]

theorem rof7_call {wl : Nat} (k : Nat) (f : Bool) (ks : List Tm) (H : Heap) (hH : 0 < H.length) :
    E.call 79 wl [.int .u8 k, .lst f (encs ks)] H = some (.ret (ofT k f ks).enc, H) := by
  refine (E_call Try.func79 rfl rfl (by kernel_rfl) rfl _ (by exact Nat.le_of_ble_eq_true rfl) H).trans ?_
  simp [Try.f79, hH, ofT, Tm.enc, dig]

def nameT (s : ByteArray) : Tm := .mk 1 s false true [] true []
/-- The law's towers. -/
def tower (p q : ByteArray) : Nat → Tm
  | 0 => nameT p
  | n + 1 => ofT 13 true [tower p q n, nameT q]

theorem rsizes_name {wl : Nat} (s : ByteArray) {fd : Bool} {ds : List Dt} {fs : Bool} {ss : List Sc} (H : Heap) (hH : 0 < H.length) :
    E.call 25 wl [.lst fd (encD ds), .lst fs (encS ss), (nameT s).enc] H = some (.ret (.tup [.int .i64 1, .int .i64 2]), H) := by
  refine (E_call Try.func25 rfl rfl (by kernel_rfl) rfl _ (by exact Nat.le_of_ble_eq_true rfl) H).trans ?_
  have hS := fun L1 : List Blk => rSize_call (wl := wl) 1 true [nameT s] (L1 :: H) (by simp [nameT, sizes, Tm.size]) (by omega) (by simp)
  have hc := fun L1 : List Blk => rcapped_call (wl := wl) 2 (L1 :: H) (by simp)
  simp [nameT, Tm.enc, encs, sizes, Tm.size] at hS hc
  have w2 : IntKind.i64.wrap 2 = 2 := by decide
  simp [Try.f25, nameT, Tm.enc, encs, hS, w2, hc, hH]

theorem tower_size (p q : ByteArray) (n : Nat) : (tower p q n).size = 2 * n + 1 := by
  induction n with
  | zero => simp [tower, nameT, Tm.size, sizes]
  | succ n ih => simp [tower, ofT, nameT, Tm.size, sizes] at *; omega

theorem fsz_name (ds ss s) : fsz ds ss (nameT s) = (1, 2) := by simp [nameT, fsz, sizes]
theorem fsz_tower (ds ss p q n) : fsz ds ss (tower p q (n + 1)) = (min (6 + (fsz ds ss (tower p q n)).1 + (fsz ds ss (tower p q n)).2) 20001, min (6 + (fsz ds ss (tower p q n)).1 + (fsz ds ss (tower p q n)).2) 20001) := by
  obtain ⟨y, hy⟩ : ∃ y, fsz ds ss (tower p q n) = y := ⟨_, rfl⟩
  simp [tower, ofT, fsz, fszs, fsz_name, hy, sums, capS]
  omega
theorem fsz_tower_le (ds ss p q n) : (fsz ds ss (tower p q n)).1 ≤ 20001 ∧ (fsz ds ss (tower p q n)).2 ≤ 20001 := by
  cases n with
  | zero => simp [tower, fsz_name]
  | succ n => rw [fsz_tower]; exact ⟨by simp only []; omega, by simp only []; omega⟩

theorem rsizes_tower (p q : ByteArray) (n : Nat) : ∀ {wl : Nat} {fd : Bool} {ds : List Dt} {fs : Bool} {ss : List Sc} (H : Heap), n < 1000000 → 0 < H.length →
    E.call 25 wl [.lst fd (encD ds), .lst fs (encS ss), (tower p q n).enc] H = some (.ret (.tup [.int .i64 (fsz ds ss (tower p q n)).1, .int .i64 (fsz ds ss (tower p q n)).2]), H) := by
  induction n with
  | zero =>
    intro wl fd ds fs ss H hn hH
    rw [tower, fsz_name]
    exact rsizes_name p H hH
  | succ n ih =>
    intro wl fd ds fs ss H hn hH
    refine (E_call Try.func25 rfl rfl (by kernel_rfl) rfl _ (by exact Nat.le_of_ble_eq_true rfl) H).trans ?_
    have hsz := tower_size p q (n + 1)
    have hS := fun L1 : List Blk => rSize_call (wl := wl) (2 * n + 3) true [tower p q (n + 1)] (L1 :: H) (by simp [sizes]; omega) (by omega) (by simp)
    have h1 := fun L1 : List Blk => ih (wl := wl) (fd := fd) (ds := ds) (fs := fs) (ss := ss) (L1 :: H) (by omega) (by simp)
    have h2 := fun L1 : List Blk => rsizes_name (wl := wl) q (fd := fd) (ds := ds) (fs := fs) (ss := ss) (L1 :: H) (by simp)
    have hle := fsz_tower_le ds ss p q n
    rw [fsz_tower]
    simp only [sizes, hsz, Nat.add_zero] at hS
    obtain ⟨y, hy⟩ : ∃ y, fsz ds ss (tower p q n) = y := ⟨_, rfl⟩
    rw [hy] at h1 hle ⊢
    obtain ⟨y1, y2⟩ := y
    simp only [] at h1 hle ⊢
    have hc := fun L1 : List Blk => rcapped_call (wl := wl) (6 + y1 + y2) (L1 :: H) (by simp)
    rw [tower] at hS ⊢
    obtain ⟨t, ht⟩ : ∃ t, tower p q n = t := ⟨_, rfl⟩
    rw [ht] at h1 hS ⊢
    obtain ⟨tk, tn, tg, tf, td, tkf, tks⟩ := t
    simp [nameT, ofT, Tm.enc, encs] at hS h1 h2
    have w1 : IntKind.i64.wrap (3 + (y1 : Int)) = 3 + (y1 : Int) := i64w (by omega) (by omega)
    have w2 : IntKind.i64.wrap (3 + (y1 : Int) + y2) = 3 + (y1 : Int) + y2 := i64w (by omega) (by omega)
    have w3 : IntKind.i64.wrap (3 + (y1 : Int) + y2 + 1) = 3 + (y1 : Int) + y2 + 1 := i64w (by omega) (by omega)
    have w4 : IntKind.i64.wrap (3 + (y1 : Int) + y2 + 1 + 2) = ((6 + y1 + y2 : Nat) : Int) := by rw [i64w (by omega) (by omega)]; omega
    obtain ⟨g, hg⟩ : ∃ g : Int, ((6 + y1 + y2 : Nat) : Int) = g := ⟨_, rfl⟩
    rw [hg] at w4 hc
    simp [-getElem?_pos, Try.f25, nameT, ofT, Tm.enc, encs, hS, h1, h2, w1, w2, w3, w4, hc, hH]
end Go.GL.Seat

/-! Walks, R: the reference's pushing at towers; what is the same (package whetstonekit). -/
namespace Go.GL.Seat
open Go.Proofs
set_option maxRecDepth 100000
set_option maxHeartbeats 8000000

theorem psh_name (ds ss s is) : psh ds ss is (nameT s) = if is = true then nameT s else ofT 10 true [nameT s] := by
  cases is <;> simp [nameT, psh, denT]
theorem psh_tower (ds ss p q n is) : psh ds ss is (tower p q (n + 1)) = iffT [psh ds ss true (tower p q n), nameT q] [psh ds ss false (tower p q n), ofT 10 true [nameT q]] is := by
  simp [tower, ofT, psh, pshs, psh_name]

theorem rpush_name {wl : Nat} (s : ByteArray) (is : Bool) {fd : Bool} {ds : List Dt} {fs : Bool} {ss : List Sc} (H : Heap) (hH : 0 < H.length) :
    E.call 26 wl [.lst fd (encD ds), .lst fs (encS ss), (nameT s).enc, .bool is] H = some (.ret (psh ds ss is (nameT s)).enc, H) := by
  refine (E_call Try.func26 rfl rfl (by kernel_rfl) rfl _ (by exact Nat.le_of_ble_eq_true rfl) H).trans ?_
  have ho := fun L1 : List Blk => rof7_call (wl := wl) 10 true [nameT s] (L1 :: H) (by simp)
  rw [psh_name]
  simp [nameT, ofT, Tm.enc, encs] at ho
  cases is <;> simp [Try.f26, nameT, ofT, Tm.enc, encs, ho, hH]

theorem rpush_tower (p q : ByteArray) (n : Nat) : ∀ {wl : Nat} (is : Bool) {fd : Bool} {ds : List Dt} {fs : Bool} {ss : List Sc} (H : Heap), 0 < H.length →
    E.call 26 wl [.lst fd (encD ds), .lst fs (encS ss), (tower p q n).enc, .bool is] H = some (.ret (psh ds ss is (tower p q n)).enc, H) := by
  induction n with
  | zero => exact fun is _ _ _ _ H hH => rpush_name p is H hH
  | succ n ih =>
    intro wl is fd ds fs ss H hH
    refine (E_call Try.func26 rfl rfl (by kernel_rfl) rfl _ (by exact Nat.le_of_ble_eq_true rfl) H).trans ?_
    have h1 := fun (w2 : Nat) (g : Bool) (L1 : List Blk) => ih (wl := w2) g (fd := fd) (ds := ds) (fs := fs) (ss := ss) (L1 :: H) (by simp)
    have h1t := fun w2 => h1 w2 true
    have h1f := fun w2 => h1 w2 false
    clear h1
    have h2t := fun (w2 : Nat) (L1 : List Blk) => rpush_name (wl := w2) q true (fd := fd) (ds := ds) (fs := fs) (ss := ss) (L1 :: H) (by simp)
    have h2f := fun (w2 : Nat) (L1 : List Blk) => rpush_name (wl := w2) q false (fd := fd) (ds := ds) (fs := fs) (ss := ss) (L1 :: H) (by simp)
    rw [psh_name] at h2t h2f
    rw [psh_tower]
    obtain ⟨a, ha⟩ : ∃ a, psh ds ss true (tower p q n) = a := ⟨_, rfl⟩
    obtain ⟨c, hc⟩ : ∃ c, psh ds ss false (tower p q n) = c := ⟨_, rfl⟩
    rw [ha] at h1t ⊢
    rw [hc] at h1f ⊢
    obtain ⟨b, hb⟩ : ∃ b, nameT q = b := ⟨_, rfl⟩
    obtain ⟨d, hd⟩ : ∃ d, ofT 10 true [b] = d := ⟨_, rfl⟩
    simp only [Bool.false_eq_true, if_true, if_false] at h2t h2f
    rw [tower]
    rw [hb] at h2t h2f ⊢
    rw [hd] at h2f ⊢
    have o1 := fun (w2 : Nat) (L1 : List Blk) => rof7_call (wl := w2) 12 true [c, b] (L1 :: H) (by simp)
    have o2 := fun (w2 : Nat) (L1 : List Blk) => rof7_call (wl := w2) 12 true [d, a] (L1 :: H) (by simp)
    have o3 := fun (w2 : Nat) (L1 : List Blk) => rof7_call (wl := w2) 12 true [a, b] (L1 :: H) (by simp)
    have o4 := fun (w2 : Nat) (L1 : List Blk) => rof7_call (wl := w2) 12 true [c, d] (L1 :: H) (by simp)
    have p1 := fun (w2 : Nat) (L1 : List Blk) => rof7_call (wl := w2) 11 true [ofT 12 true [c, b], ofT 12 true [d, a]] (L1 :: H) (by simp)
    have p2 := fun (w2 : Nat) (L1 : List Blk) => rof7_call (wl := w2) 11 true [ofT 12 true [a, b], ofT 12 true [c, d]] (L1 :: H) (by simp)
    obtain ⟨t, ht⟩ : ∃ t, tower p q n = t := ⟨_, rfl⟩
    rw [ht] at h1t h1f ⊢
    clear ha hc hb hd ht ih
    obtain ⟨ak, an, ag, af, ad, akf, aks⟩ := a
    obtain ⟨bk, bn, bg, bf, bd, bkf, bks⟩ := b
    obtain ⟨ck, cn, cg, cf, cd, ckf, cks⟩ := c
    obtain ⟨dk, dn, dg', df', dd, dkf, dks⟩ := d
    obtain ⟨tk, tn, tg, tf, td, tkf, tks⟩ := t
    simp [ofT, encs, Tm.enc] at o1 o2 o3 o4 p1 p2
    simp only [Tm.enc] at h1t h1f h2t h2f
    cases is with
    | true => simp [Try.f26, iffT, Tm.enc, encs, ofT, h1t, h1f, h2t, h2f, o1, o2, p1, hH]
    | false => simp [Try.f26, iffT, Tm.enc, encs, ofT, h1t, h1f, h2t, h2f, o3, o4, p2, hH]
end Go.GL.Seat

/-! Walks, S: what is the same (package whetstonekit). -/
namespace Go.GL.Seat
open Go.Proofs
set_option maxRecDepth 100000
set_option maxHeartbeats 8000000

theorem list_eq_iff {α : Type} {a b : List α} (h : a.length = b.length) : a = b ↔ ∀ (i : Nat) (x y : α), a[i]? = some x → b[i]? = some y → x = y := by
  constructor
  · rintro rfl i x y hx hy
    rw [hx] at hy; injection hy
  · intro hh
    apply List.ext_getElem? 
    intro i
    cases hx : a[i]? with
    | none =>
      have := List.getElem?_eq_none_iff.1 hx
      exact (List.getElem?_eq_none_iff.2 (by omega)).symm
    | some x =>
      have hi := (List.getElem?_eq_some_iff.1 hx).1
      have hy : b[i]? = some b[i] := List.getElem?_eq_getElem (by omega)
      rw [hy, hh i x _ hx hy]

theorem limbs_call {wl : Nat} (f g : Bool) (a b : List Nat) (H : Heap) (hH : 0 < H.length) (hb : a.length < 1000000000000) :
    E.call 52 wl [.lst f (dig a), .lst g (dig b)] H = some (.ret (.bool (decide (a = b))), H) := by
  refine (E_call Try.func52 rfl rfl (by kernel_rfl) rfl _ (by exact Nat.le_of_ble_eq_true rfl) H).trans ?_
  by_cases hl : a.length = b.length
  case neg =>
    have hne : a ≠ b := fun h => hl (by rw [h])
    have hl2 : ¬ ((a.length : Int) = b.length) := by omega
    simp [Try.f52, hl2, hl, hne, hH]
  obtain ⟨r, hr⟩ : ∃ r, decide (a = b) = r := ⟨_, rfl⟩
  rw [hr]
  have hl2 : (a.length : Int) = b.length := by omega
  simp [Try.f52, hl2]
  generalize hz : run tab E wl (Code.loop _) _ = z
  obtain ⟨x, s', rfl, hx, hH'⟩ := loop_up (fun c s => E_loop) hz b.length (fun i st => st.env 0 = .lst f (dig a) ∧ st.env 1 = .lst g (dig b) ∧ st.env 5 = .int .i64 i ∧ st.H = H ∧ ∀ j x y, j < i → a[j]? = some x → b[j]? = some y → x = y)
    (fun x st => ((x = .exit 0 ∧ r = true) ∨ (x = .ret ∧ r = false ∧ st.env 4 = .bool false)) ∧ st.H = H) (by simp) (by
      rintro i ⟨e, L, H'⟩ hi ⟨h0, h1, h5, hHH, hj⟩
      have hi2 : i < b.length := hi
      obtain ⟨t, ht⟩ : ∃ t, a[i]? = some t := ⟨_, List.getElem?_eq_getElem (by omega)⟩
      obtain ⟨u, hu⟩ : ∃ u, b[i]? = some u := ⟨_, List.getElem?_eq_getElem (by omega)⟩
      simp only [] at h0 h1 h5 hHH
      subst hHH
      have hia : i < a.length := by omega
      have hw2 := i64w (n := (i : Int) + 1) (by omega) (by omega)
      by_cases hts : t = u
      · subst hts
        simp [-getElem?_pos, h0, h1, h5, ht, hu, hi, hia, hw2]
        intro j x y hji hx hy
        rcases Nat.lt_or_ge j i with h | h
        · exact hj j x y h hx hy
        · have : j = i := by omega
          subst this; rw [ht] at hx; rw [hu] at hy; injection hx with hx; injection hy with hy; rw [← hx, hy]
      · have hts2 : ¬ (t : Int) = u := by omega
        simp [-getElem?_pos, h0, h1, h5, ht, hu, hi, hia, hw2, hts2, ← hr]
        rintro rfl
        rw [ht] at hu
        injection hu with hu
        exact hts hu) (by
      rintro ⟨e, L, H'⟩ ⟨h0, h1, h5, hHH, hj⟩
      simp only [] at h0 h1 h5 hHH
      have hna : ¬ b.length < a.length := by omega
      simp [h0, h1, h5, hHH, ← hr, hna]
      rw [list_eq_iff hl]
      intro i x y hx hy
      exact hj i x y (List.getElem?_eq_some_iff.1 hy).1 hx hy)
  rcases hx with ⟨rfl, hx⟩ | ⟨rfl, hx, h4⟩
  · simp [hH', hH, hx]
  · simp [hH', hx, h4, hH]

theorem sameInt_call {wl : Nat} (n1 n2 f g : Bool) (a b : List Nat) (H : Heap) (hH : 0 < H.length) (hb : a.length < 1000000000000) :
    E.call 17 wl [.agg [.bool n1, .lst f (dig a)], .agg [.bool n2, .lst g (dig b)]] H = some (.ret (.bool ((n1 == n2) && decide (a = b))), H) := by
  refine (E_call Try.func17 rfl rfl (by kernel_rfl) rfl _ (by exact Nat.le_of_ble_eq_true rfl) H).trans ?_
  have hc := fun (w2 : Nat) (L1 : List Blk) => limbs_call (wl := w2) f g a b (L1 :: H) (by simp) hb
  cases n1 <;> cases n2 <;> simp [Try.f17, hc, hH]

mutual
def sameT : Tm → Tm → Bool
  | .mk k nm ng _ ds _ ks, .mk k2 nm2 ng2 _ ds2 _ ks2 => decide (k = k2) && (decide (nm = nm2) && (((ng == ng2) && decide (ds = ds2)) && sameTs ks ks2))
def sameTs : List Tm → List Tm → Bool
  | [], [] => true
  | x :: xs, y :: ys => sameT x y && sameTs xs ys
  | _, _ => false
end
theorem sameTs_length {a b : List Tm} (h : sameTs a b = true) : a.length = b.length := by
  induction a generalizing b with
  | nil => cases b with
    | nil => rfl
    | cons y b => simp [sameTs] at h
  | cons x a ih => cases b with
    | nil => simp [sameTs] at h
    | cons y b => simp [sameTs] at h; simp [ih h.2]
theorem sameTs_iff {a b : List Tm} (h : a.length = b.length) : sameTs a b = true ↔ ∀ (i : Nat) (x y : Tm), a[i]? = some x → b[i]? = some y → sameT x y = true := by
  induction a generalizing b with
  | nil => cases b with
    | nil => simp [sameTs]
    | cons y b => simp at h
  | cons x a ih => cases b with
    | nil => simp at h
    | cons y b =>
      simp only [sameTs, Bool.and_eq_true]
      rw [ih (by simpa using h)]
      constructor
      · rintro ⟨h1, h2⟩ i x' y' hx hy
        cases i with
        | zero => simp at hx hy; subst hx hy; exact h1
        | succ i => exact h2 i x' y' (by simpa using hx) (by simpa using hy)
      · intro hh
        exact ⟨hh 0 x y rfl rfl, fun i x' y' hx hy => hh (i + 1) x' y' (by simpa using hx) (by simpa using hy)⟩

def SameC (a : Tm) : Prop := ∀ (wl : Nat) (b : Tm) (H : Heap), 0 < H.length → E.call 11 wl [a.enc, b.enc] H = some (.ret (.bool (sameT a b)), H)

theorem sameTs_call {wl : Nat} (f g : Bool) (a b : List Tm) (ha : ∀ t ∈ a, SameC t) (H : Heap) (hH : 0 < H.length) (hb : a.length < 1000000000000) :
    E.call 27 wl [.lst f (encs a), .lst g (encs b)] H = some (.ret (.bool (sameTs a b)), H) := by
  refine (E_call Try.func27 rfl rfl (by kernel_rfl) rfl _ (by exact Nat.le_of_ble_eq_true rfl) H).trans ?_
  by_cases hl : a.length = b.length
  case neg =>
    have hne : sameTs a b = false := by
      cases h : sameTs a b with
      | false => rfl
      | true => exact absurd (sameTs_length h) hl
    have hl2 : ¬ ((a.length : Int) = b.length) := by omega
    simp [Try.f27, hl2, hl, hne, hH]
  obtain ⟨r, hr⟩ : ∃ r, sameTs a b = r := ⟨_, rfl⟩
  rw [hr]
  have hl2 : (a.length : Int) = b.length := by omega
  simp [Try.f27, hl2]
  generalize hz : run tab E wl (Code.loop _) _ = z
  obtain ⟨x, s', rfl, hx, hH'⟩ := loop_up (fun c s => E_loop) hz b.length (fun i st => st.env 0 = .lst f (encs a) ∧ st.env 1 = .lst g (encs b) ∧ st.env 5 = .int .i64 i ∧ st.H = H ∧ ∀ j x y, j < i → a[j]? = some x → b[j]? = some y → sameT x y = true)
    (fun x st => ((x = .exit 0 ∧ r = true) ∨ (x = .ret ∧ r = false ∧ st.env 4 = .bool false)) ∧ st.H = H) (by simp) (by
      rintro i ⟨e, L, H'⟩ hi ⟨h0, h1, h5, hHH, hj⟩
      have hi2 : i < b.length := hi
      obtain ⟨t, ht⟩ : ∃ t, a[i]? = some t := ⟨_, List.getElem?_eq_getElem (by omega)⟩
      obtain ⟨u, hu⟩ : ∃ u, b[i]? = some u := ⟨_, List.getElem?_eq_getElem (by omega)⟩
      simp only [] at h0 h1 h5 hHH
      subst hHH
      have hia : i < a.length := by omega
      have hw2 := i64w (n := (i : Int) + 1) (by omega) (by omega)
      have hc := fun (w2 : Nat) (L1 : List Blk) => ha t (List.mem_of_getElem? ht) w2 u (L1 :: H') (by simp)
      have hiff := sameTs_iff hl
      obtain ⟨q, hq⟩ : ∃ q, sameT t u = q := ⟨_, rfl⟩
      rw [hq] at hc
      obtain ⟨tk, tn, tg, tf, td, tkf, tks⟩ := t
      obtain ⟨uk, un, ug, uf, ud, ukf, uks⟩ := u
      simp only [Tm.enc] at hc
      cases q with
      | true =>
        simp [-getElem?_pos, h0, h1, h5, ht, hu, hi, hia, hw2, Tm.enc, hc]
        intro j x y hji hx hy
        rcases Nat.lt_or_ge j i with h | h
        · exact hj j x y h hx hy
        · have : j = i := by omega
          subst this; rw [ht] at hx; rw [hu] at hy; injection hx with hx; injection hy with hy; rw [← hx, ← hy]; exact hq
      | false =>
        simp [-getElem?_pos, h0, h1, h5, ht, hu, hi, hia, hw2, Tm.enc, hc, ← hr]
        cases h : sameTs a b with
        | false => rfl
        | true =>
          have := hiff.1 h i _ _ ht hu
          rw [hq] at this
          cases this) (by
      rintro ⟨e, L, H'⟩ ⟨h0, h1, h5, hHH, hj⟩
      simp only [] at h0 h1 h5 hHH
      have hna : ¬ b.length < a.length := by omega
      simp [h0, h1, h5, hHH, ← hr, hna]
      rw [sameTs_iff hl]
      intro i x y hx hy
      exact hj i x y (List.getElem?_eq_some_iff.1 hy).1 hx hy)
  rcases hx with ⟨rfl, hx⟩ | ⟨rfl, hx, h4⟩
  · simp [hH', hH, hx]
  · simp [hH', hx, h4, hH]

theorem sameT_call (n : Nat) : ∀ (a : Tm), a.size ≤ n → okT a → SameC a := by
  induction n using Nat.strongRecOn with
  | _ n ih =>
  intro a hn hok wl b H hH
  refine (E_call Try.func11 rfl rfl (by kernel_rfl) rfl _ (by exact Nat.le_of_ble_eq_true rfl) H).trans ?_
  obtain ⟨ak, an, ag, af, ad, akf, aks⟩ := a
  obtain ⟨bk, bn, bg, bf, bd, bkf, bks⟩ := b
  simp only [Tm.size] at hn
  obtain ⟨hok1, hok2, hok3⟩ := hok
  have hi := fun (w2 : Nat) (L1 : List Blk) => sameInt_call (wl := w2) ag bg af bf ad bd (L1 :: H) (by simp) (by omega)
  have hs := fun (w2 : Nat) (L1 : List Blk) => sameTs_call (wl := w2) akf bkf aks bks (fun t ht => ih t.size (by have := sizes_mem ht; omega) t (Nat.le_refl _) (okTs_mem hok3 ht)) (L1 :: H) (by simp) (by omega)
  obtain ⟨x, hx⟩ : ∃ x, ((ag == bg) && decide (ad = bd)) = x := ⟨_, rfl⟩
  obtain ⟨y, hy⟩ : ∃ y, sameTs aks bks = y := ⟨_, rfl⟩
  rw [hx] at hi
  rw [hy] at hs
  simp only [sameT]
  rw [hx, hy]
  by_cases h1 : ak = bk
  · subst h1
    by_cases h2 : an = bn
    · subst h2
      cases x <;> simp [Try.f11, Tm.enc, hi, hs, hH]
    · simp [Try.f11, Tm.enc, h2, hH]
  · have h1' : ((ak : Int) == bk) = false := by rw [beq_eq_false_iff_ne]; omega
    simp [Try.f11, Tm.enc, h1', h1, hH]
end Go.GL.Seat

/-! Walks, T: the law of towers (package whetstonelaw07), parts. -/
namespace Go.GL.Seat
open Go.Proofs
set_option maxRecDepth 100000
set_option maxHeartbeats 8000000

theorem lname_call {wl : Nat} (s : ByteArray) (H : Heap) (hH : 0 < H.length) : E.call 6 wl [.str s] H = some (.ret (nameT s).enc, H) := by
  refine (E_call Try.func6 rfl rfl (by kernel_rfl) rfl _ (by exact Nat.le_of_ble_eq_true rfl) H).trans ?_
  simp [Try.f6, hH, nameT, Tm.enc, dig, encs]
theorem lof_call {wl : Nat} (k : Nat) (f : Bool) (ks : List Tm) (H : Heap) (hH : 0 < H.length) :
    E.call 8 wl [.int .u8 k, .lst f (encs ks)] H = some (.ret (ofT k f ks).enc, H) := by
  refine (E_call Try.func8 rfl rfl (by kernel_rfl) rfl _ (by exact Nat.le_of_ble_eq_true rfl) H).trans ?_
  simp [Try.f8, hH, ofT, Tm.enc, dig]

theorem Pick_call {wl : Nat} (x n : Int) (hn : 1 ≤ n ∧ n ≤ 1000000000) (H : Heap) (hH : 0 < H.length) :
    E.call 7 wl [.int .i64 x, .int .i64 n] H = some (.ret (.int .i64 (x % n)), H) := by
  refine (E_call Try.func7 rfl rfl (by kernel_rfl) rfl _ (by exact Nat.le_of_ble_eq_true rfl) H).trans ?_
  have h1 : ¬ n < 1 := by omega
  have h0 : ¬ n = 0 := by omega
  have hlt := Int.tmod_lt_of_pos x (show 0 < n by omega)
  have hgt := Int.lt_tmod_of_pos x (show 0 < n by omega)
  by_cases hx : x.tmod n < 0
  · have hw := i64w (n := x.tmod n + n) (by omega) (by omega)
    have he : x % n = x.tmod n + n := by
      have h1 : x % n = (x.tmod n + n) % n := by
        rw [Int.add_emod_right]
        rw [← Int.emod_emod_of_dvd x (Int.dvd_refl n)]
        have := Int.tmod_add_mul_tdiv x n
        conv => lhs; rw [← this]
        simp [Int.add_mul_emod_self_left]
      rw [h1, Int.emod_eq_of_lt (by omega) (by omega)]
    simp [Try.f7, h1, h0, hx, hw, he, hH]
  · have he : x % n = x.tmod n := by
      have h1 : x % n = (x.tmod n) % n := by
        have := Int.tmod_add_mul_tdiv x n
        conv => lhs; rw [← this]
        simp [Int.add_mul_emod_self_left]
      rw [h1, Int.emod_eq_of_lt (by omega) (by omega)]
    simp [Try.f7, h1, h0, hx, he, hH]

/-- The reference's Push: what it tells. -/
def rpushR (ds : List Dt) (ss : List Sc) (t : Tm) (is : Bool) : PV :=
  match sortS ds ss t with
  | .error e => .tup [nilT.enc, .int .i64 e]
  | .ok s => if s = bBool then (if 20000 < (if is = true then (fsz ds ss t).1 else (fsz ds ss t).2) then .tup [nilT.enc, .int .i64 34] else .tup [(psh ds ss is t).enc, .int .i64 0])
    else .tup [nilT.enc, .int .i64 23]

theorem tower_bulk (p q : ByteArray) (n : Nat) (hp : p.size ≤ 1000) (hq : q.size ≤ 1000) : (tower p q n).bulk ≤ 2000 * n + 2000 := by
  induction n with
  | zero => simp [tower, nameT, Tm.bulk, bulks]; omega
  | succ n ih => simp [tower, ofT, nameT, Tm.bulk, bulks] at *; show bNil.size + _ ≤ _; have : bNil.size = 0 := rfl; omega

theorem rPush_tower {wl : Nat} (p q : ByteArray) (n : Nat) (is : Bool) {fd : Bool} {ds : List Dt} {fs : Bool} {ss : List Sc} (H : Heap) (hp : p.size ≤ 1000) (hq : q.size ≤ 1000) (hn : n < 10000) (hds : okD ds) (hss : ss.length < 1000000000000) (hw : wl ≤ H.length) (hH : 0 < H.length) :
    E.call 10 wl [.lst fd (encD ds), .lst fs (encS ss), (tower p q n).enc, .bool is] H = some (.ret (rpushR ds ss (tower p q n) is), H) := by
  refine (E_call Try.func10 rfl rfl (by kernel_rfl) rfl _ (by exact Nat.le_of_ble_eq_true rfl) H).trans ?_
  have htb := tower_bulk p q n hp hq
  have hs := fun L1 : List Blk => rsort_call (tower p q n).bulk (wl := wl) (tower p q n) (Nat.le_refl _) (by omega) (fd := fd) (fs := fs) (L1 :: H) hds hss (by simp; omega) (by simp)
  have hz := fun (L1 : List Blk) => rsizes_tower p q n (wl := wl) (fd := fd) (ds := ds) (fs := fs) (ss := ss) (L1 :: H) (by omega) (by simp)
  have hpu := fun (L1 : List Blk) => rpush_tower p q n (wl := wl) is (fd := fd) (ds := ds) (fs := fs) (ss := ss) (L1 :: H) (by simp)
  unfold rpushR
  obtain ⟨t, ht⟩ : ∃ t, tower p q n = t := ⟨_, rfl⟩
  rw [ht] at hs hz hpu ⊢
  obtain ⟨u, hu⟩ : ∃ u, psh ds ss is t = u := ⟨_, rfl⟩
  rw [hu] at hpu ⊢
  obtain ⟨y, hy⟩ : ∃ y, fsz ds ss t = y := ⟨_, rfl⟩
  rw [hy] at hz ⊢
  have herr := fun e => sort_err (ds := ds) (ss := ss) (t := t) (e := e)
  obtain ⟨k, nm, ng, df, dg, kf, ks⟩ := t
  obtain ⟨uk, un, ug, uf, ud, ukf, uks⟩ := u
  simp only [Tm.enc] at hs hz hpu
  cases hst : sortS ds ss (.mk k nm ng df dg kf ks) with
  | error e =>
    rw [hst] at hs
    simp only [triedS] at hs
    have he := herr e hst
    simp [Try.f10, Tm.enc, nilT, hs, hH, he, encs]
  | ok s =>
    rw [hst] at hs
    simp only [triedS] at hs
    by_cases hsb : s = bBool
    · cases is with
      | true =>
        by_cases h1 : 20000 < y.1
        · have h1' : (20000 : Int) < y.1 := by omega
          simp [Try.f10, Tm.enc, nilT, hs, hsb, hz, h1, h1', hH, encs]
        · have h1' : ¬ (20000 : Int) < y.1 := by omega
          simp [Try.f10, Tm.enc, nilT, hs, hsb, hz, hpu, h1, h1', hH, encs]
      | false =>
        by_cases h1 : 20000 < y.2
        · have h1' : (20000 : Int) < y.2 := by omega
          simp [Try.f10, Tm.enc, nilT, hs, hsb, hz, h1, h1', hH, encs]
        · have h1' : ¬ (20000 : Int) < y.2 := by omega
          simp [Try.f10, Tm.enc, nilT, hs, hsb, hz, hpu, h1, h1', hH, encs]
    · simp [Try.f10, Tm.enc, nilT, hs, hsb, hH, encs]
end Go.GL.Seat

/-! Walks, U: the law of towers (package whetstonelaw07). -/
namespace Go.GL.Seat
open Go.Proofs
set_option maxRecDepth 100000
set_option maxHeartbeats 8000000

abbrev bP : ByteArray := ⟨#[112]⟩
abbrev bQ : ByteArray := ⟨#[113]⟩
abbrev bX : ByteArray := ⟨#[120]⟩
def scPQ : List Sc := [(bP, bBool), (bQ, bBool)]

theorem sort_name (ds : List Dt) (ss : List Sc) (s : ByteArray) (h : lastS ss s = some bBool) : sortS ds ss (nameT s) = .ok bBool := by
  simp [nameT, sortS, many, manyOk, h, isB_bool]
theorem sort_tower (ds : List Dt) (ss : List Sc) (p q : ByteArray) (hp : lastS ss p = some bBool) (hq : lastS ss q = some bBool) (n : Nat) : sortS ds ss (tower p q n) = .ok bBool := by
  induction n with
  | zero => exact sort_name ds ss p hp
  | succ n ih => simp [tower, ofT, sortS, sortsS, many, manyOk, ih, sort_name ds ss q hq, kindSort]

theorem lastPQ : lastS scPQ bP = some bBool ∧ lastS scPQ bQ = some bBool := by
  constructor <;> simp [lastS, scPQ]

mutual
theorem same_own : ∀ t : Tm, sameT (ownT t) t = true
  | .mk k nm ng df ds kf ks => by simp [ownT, sameT, sames_own ks]
theorem sames_own : ∀ l : List Tm, sameTs (ownT.ownTs l) l = true
  | [] => by simp [ownT.ownTs, sameTs]
  | t :: ts => by simp [ownT.ownTs, sameTs, same_own t, sames_own ts]
end
mutual
theorem same_refl : ∀ t : Tm, sameT t t = true
  | .mk k nm ng df ds kf ks => by simp [sameT, sames_refl ks]
theorem sames_refl : ∀ l : List Tm, sameTs l l = true
  | [] => by simp [sameTs]
  | t :: ts => by simp [sameTs, same_refl t, sames_refl ts]
end
mutual
theorem okT_own : ∀ t : Tm, okT t → okT (ownT t)
  | .mk k nm ng df ds kf ks, h => by
    rw [ownT]
    exact ⟨h.1, by rw [ownTs_map]; simpa using h.2.1, okTs_own ks h.2.2⟩
theorem okTs_own : ∀ l : List Tm, okTs l → okTs (ownT.ownTs l)
  | [], _ => trivial
  | t :: ts, h => ⟨okT_own t h.1, okTs_own ts h.2⟩
end

theorem grown_call {wl : Nat} (x : Int) (is : Bool) (H : Heap) (hw : wl ≤ H.length) (hH : 0 < H.length) (hx : -9223372036854775808 ≤ x ∧ x ≤ 9223372036854775807)
    (haw : ∀ L1 : List Blk, E.call 5 wl [] (L1 :: H) = some (.ret (.bool true), L1 :: H)) :
    E.call 3 wl [.int .i64 x, .bool is] H = some (.ret (.bool true), H) := by
  refine (E_call Try.func3 rfl rfl (by kernel_rfl) rfl _ (by exact Nat.le_of_ble_eq_true rfl) H).trans ?_
  obtain ⟨N, hN⟩ : ∃ N : Nat, x % 30 = (N : Int) := ⟨(x % 30).toNat, by omega⟩
  have hN2 : N < 30 := by omega
  have hp := fun L1 : List Blk => Pick_call (wl := wl) x 30 (by omega) (L1 :: H) (by simp)
  rw [hN] at hp
  have hnp := fun (w2 : Nat) (L1 : List Blk) => lname_call (wl := w2) bP (L1 :: H) (by simp)
  have hnq := fun (w2 : Nat) (L1 : List Blk) => lname_call (wl := w2) bQ (L1 :: H) (by simp)
  simp only [nameT, Tm.enc] at hnp hnq
  simp [encs] at hnp hnq
  have hds : okD [] := ⟨by simp, by simp⟩
  simp [Try.f3, haw, hnp]
  generalize hz : run tab E wl (Code.loop _) _ = z
  obtain ⟨x', s', rfl, hx'⟩ := loop_up (fun c s => E_loop) hz N (fun i st => st.env 0 = .int .i64 x ∧ st.env 1 = .bool is ∧ st.env 5 = .lst true (encS scPQ) ∧ st.env 6 = .ptr H.length 1 0 ∧ st.env 7 = .int .i64 i ∧ st.H = H ∧ st.L[1]? = some (.box (cellsOf (tower bP bQ i).enc)))
    (fun x' st => x' = .exit 0 ∧ st.env 1 = .bool is ∧ st.env 5 = .lst true (encS scPQ) ∧ st.env 6 = .ptr H.length 1 0 ∧ st.H = H ∧ st.L[1]? = some (.box (cellsOf (tower bP bQ N).enc)))
    ⟨by simp, by simp, by simp [encS, encS1, scPQ], by simp, by simp, by simp, by simp [tower, nameT, Tm.enc, encs]⟩ (by
      rintro i ⟨e, L, H'⟩ hi ⟨h0, h1, h5, h6, h7, hHH, hL1⟩
      simp only [] at h0 h1 h5 h6 h7 hHH hL1
      subst hHH
      have hw2 := i64w (n := (i : Int) + 1) (by omega) (by omega)
      have hof := fun (w2 : Nat) (L1 : List Blk) => lof_call (wl := w2) 13 true [tower bP bQ i, nameT bQ] (L1 :: H') (by simp)
      rw [tower]
      obtain ⟨t, ht⟩ : ∃ t, tower bP bQ i = t := ⟨_, rfl⟩
      rw [ht] at hof hL1 ⊢
      obtain ⟨tk, tn, tg, tf, td, tkf, tks⟩ := t
      simp [ofT, nameT, Tm.enc, encs] at hof hL1
      have hi2 : (i : Int) < N := by omega
      have hLl := (List.getElem?_eq_some_iff.1 hL1).1
      simp [-getElem?_pos, h0, h1, h5, h6, h7, hL1, hp, hi, hi2, hnq, hof, hw2, hw, app_old hL1, ofT, nameT, Tm.enc, encs]
      done) (by
      rintro ⟨e, L, H'⟩ ⟨h0, h1, h5, h6, h7, hHH, hL1⟩
      simp only [] at h0 h1 h5 h6 h7 hHH hL1
      subst hHH
      simp [-getElem?_pos, h0, h1, h5, h6, h7, hp]
      exact hL1)
  obtain ⟨rfl, h1, h5, h6, hHH, hL1⟩ := hx'
  have htb := tower_bulk bP bQ N (by decide) (by decide)
  have hP := fun (L1 : List Blk) => Push_call (wl := wl) (tower bP bQ N) (fd := true) (ds := []) (fs := true) (ss := scPQ) is (L1 :: H) (by omega) hds (by simp [scPQ]) (by simp; omega) (by simp)
  have hR := fun (L1 : List Blk) => rPush_tower (wl := wl) bP bQ N is (fd := true) (ds := []) (fs := true) (ss := scPQ) (L1 :: H) (by decide) (by decide) (by omega) hds (by simp [scPQ]) (by simp; omega) (by simp)
  have hst := sort_tower [] scPQ bP bQ lastPQ.1 lastPQ.2 N
  unfold pushR at hP
  unfold rpushR at hR
  rw [hst] at hP hR
  simp only [if_true] at hP hR
  have hsame := fun (w2 : Nat) (L1 : List Blk) => sameT_call _ (ownT (psh [] scPQ is (tower bP bQ N))) (Nat.le_refl _) (okT_own _ (okT_psh _ _ _ is (okT_bulk _ (by omega)))) w2 (psh [] scPQ is (tower bP bQ N)) (L1 :: H) (by simp)
  rw [same_own] at hsame
  have hnil := fun (w2 : Nat) (L1 : List Blk) => sameT_call _ nilT (Nat.le_refl _) ⟨by simp, by simp, trivial⟩ w2 nilT (L1 :: H) (by simp)
  rw [same_refl] at hnil
  obtain ⟨t, ht⟩ : ∃ t, tower bP bQ N = t := ⟨_, rfl⟩
  rw [ht] at hP hR hsame hL1
  obtain ⟨u, hu⟩ : ∃ u, psh [] scPQ is t = u := ⟨_, rfl⟩
  rw [hu] at hP hR hsame
  obtain ⟨o, ho⟩ : ∃ o, ownT u = o := ⟨_, rfl⟩
  rw [ho] at hP hsame
  clear hu ho ht hst
  obtain ⟨tk, tn, tg, tf, td, tkf, tks⟩ := t
  obtain ⟨uk, un, ug, uf, ud, ukf, uks⟩ := u
  obtain ⟨ok, on, og, of', od, okf, oks⟩ := o
  simp only [Tm.enc, cellsOf] at hL1 hsame
  simp only [nilT, Tm.enc] at hnil
  simp [encs] at hnil
  by_cases h20 : 20000 < (if is = true then (fsz [] scPQ (.mk tk tn tg tf td tkf tks)).1 else (fsz [] scPQ (.mk tk tn tg tf td tkf tks)).2)
  · simp only [if_pos h20] at hP hR
    simp [Tm.enc, nilT, encD, encs] at hP hR
    simp [-getElem?_pos, h1, h5, h6, hHH, hL1, hP, hR, hnil, hH, app_old hL1]
    done
  · simp only [if_neg h20] at hP hR
    simp [Tm.enc, encD] at hP hR
    simp [-getElem?_pos, h1, h5, h6, hHH, hL1, hP, hR, hsame, hH, app_old hL1]
    done
end Go.GL.Seat

/-! Walks, V: the law of towers is awake (package whetstonelaw07). -/
namespace Go.GL.Seat
open Go.Proofs
set_option maxRecDepth 100000
set_option maxHeartbeats 8000000

theorem digsN_three : digsN 3 = [3] := by
  have h0 : (3 : Nat) / B9 = 0 := rfl
  have h1 : (3 : Nat) % B9 = 3 := rfl
  have h2 : 0 / B9 = 0 := rfl
  rw [digsN, carryD_nil (by omega), h0, h1]
  simp [carryD, normD, trimD, h0, h1]
theorem Of_three {wl : Nat} (H : Heap) (hH : 0 < H.length) : E.call 19 wl [.int .i64 3] H = some (.ret (.agg [.bool false, .lst false [.int .u32 3]]), H) := by
  have h : (3 : Int).natAbs = 3 := rfl
  rw [Of_call (wl := wl) 3 (by omega) H hH (by rw [h, digsN_three]; simp) (by rw [h, digsN_three]; simp)]
  simp [intOf, h, digsN_three, rowF, dig]

@[simp] theorem dig_three : dig [3] = [.int .u32 3] := rfl
def threeT : Tm := .mk 2 bNil false false [3] true []
def sc3 : List Sc := [(bX, bInt), (bP, bBool), (bQ, bBool)]
def leT : Tm := ofT 9 true [nameT bX, threeT]
def leR : Tm := ofT 9 true [ofT 5 true [threeT, oneT], nameT bX]
def eqT : Tm := ofT 13 true [nameT bP, nameT bQ]
def eqR : Tm := ofT 11 true [ofT 12 true [nameT bP, nameT bQ], ofT 12 true [ofT 10 true [nameT bP], ofT 10 true [nameT bQ]]]

theorem last3 : lastS sc3 bX = some bInt ∧ lastS sc3 bP = some bBool ∧ lastS sc3 bQ = some bBool := by
  refine ⟨?_, ?_, ?_⟩ <;> simp [lastS, sc3]
theorem sort_le : sortS [] sc3 leT = .ok bBool := by
  have h1 : sortS [] sc3 (nameT bX) = .ok bInt := by simp [nameT, sortS, many, manyOk, last3.1, isB_int]
  have h2 : sortS [] sc3 threeT = .ok bInt := by simp [threeT, sortS, many, manyOk, rightN, rightD, sortsS, kindSort]
  simp [leT, ofT, sortS, sortsS, many, manyOk, h1, h2, kindSort]
theorem sort_eq : sortS [] sc3 eqT = .ok bBool := by
  simp [eqT, ofT, sortS, sortsS, many, manyOk, sort_name [] sc3 bP last3.2.1, sort_name [] sc3 bQ last3.2.2, kindSort]
theorem fsz_leT : fsz [] sc3 leT = (3, 5) := by simp [leT, ofT, fsz, sizes, nameT, threeT, Tm.size]
theorem fsz_eqT : fsz [] sc3 eqT = (9, 9) := by simp [eqT, ofT, fsz, fszs, fsz_name, sums, capS]
theorem psh_le : psh [] sc3 false leT = leR := by
  simp [leT, leR, ofT, psh, denT, aboveT]
theorem psh_eq : psh [] sc3 false eqT = eqR := by
  simp [eqT, eqR, ofT, psh, pshs, psh_name, iffT]

theorem awake_call {wl : Nat} (H : Heap) (hw : wl ≤ H.length) (hH : 0 < H.length) : E.call 5 wl [] H = some (.ret (.bool true), H) := by
  refine (E_call Try.func5 rfl rfl (by kernel_rfl) rfl _ (by exact Nat.le_of_ble_eq_true rfl) H).trans ?_
  have hds : okD [] := ⟨by simp, by simp⟩
  have h3 := fun (w2 : Nat) (L1 : List Blk) => Of_three (wl := w2) (L1 :: H) (by simp)
  have h1 := fun (w2 : Nat) (L1 : List Blk) => Of_one (wl := w2) (L1 :: H) (by simp)
  have hn := fun (s : ByteArray) (w2 : Nat) (L1 : List Blk) => lname_call (wl := w2) s (L1 :: H) (by simp)
  have hx := hn bX
  have hp := hn bP
  have hq := hn bQ
  clear hn
  have f1 := fun (w2 : Nat) (L1 : List Blk) => lof_call (wl := w2) 9 true [nameT bX, threeT] (L1 :: H) (by simp)
  have f2 := fun (w2 : Nat) (L1 : List Blk) => lof_call (wl := w2) 13 true [nameT bP, nameT bQ] (L1 :: H) (by simp)
  have f3 := fun (w2 : Nat) (L1 : List Blk) => lof_call (wl := w2) 5 true [threeT, oneT] (L1 :: H) (by simp)
  have f4 := fun (w2 : Nat) (L1 : List Blk) => lof_call (wl := w2) 9 true [ofT 5 true [threeT, oneT], nameT bX] (L1 :: H) (by simp)
  have f5 := fun (w2 : Nat) (L1 : List Blk) => lof_call (wl := w2) 12 true [nameT bP, nameT bQ] (L1 :: H) (by simp)
  have f6 := fun (w2 : Nat) (L1 : List Blk) => lof_call (wl := w2) 10 true [nameT bP] (L1 :: H) (by simp)
  have f7 := fun (w2 : Nat) (L1 : List Blk) => lof_call (wl := w2) 10 true [nameT bQ] (L1 :: H) (by simp)
  have f8 := fun (w2 : Nat) (L1 : List Blk) => lof_call (wl := w2) 12 true [ofT 10 true [nameT bP], ofT 10 true [nameT bQ]] (L1 :: H) (by simp)
  have f9 := fun (w2 : Nat) (L1 : List Blk) => lof_call (wl := w2) 11 true [ofT 12 true [nameT bP, nameT bQ], ofT 12 true [ofT 10 true [nameT bP], ofT 10 true [nameT bQ]]] (L1 :: H) (by simp)
  have hb1 : leT.bulk < 100000000000 := by simp [leT, ofT, nameT, threeT, Tm.bulk, bulks, ByteArray.size]
  have hb2 : eqT.bulk < 100000000000 := by simp [eqT, ofT, nameT, Tm.bulk, bulks, ByteArray.size]
  have P1 := fun (w2 : Nat) (L1 : List Blk) (h : w2 ≤ (L1 :: H).length) => Push_call (wl := w2) leT (fd := true) (ds := []) (fs := true) (ss := sc3) false (L1 :: H) hb1 hds (by simp [sc3]) h (by simp)
  have P2 := fun (L1 : List Blk) => Push_call (wl := wl) eqT (fd := true) (ds := []) (fs := true) (ss := sc3) false (L1 :: H) hb2 hds (by simp [sc3]) (by simp; omega) (by simp)
  have P1' := fun (L1 : List Blk) => P1 (H.length + 1) L1 (by simp)
  clear P1
  have S1 := fun (w2 : Nat) (L1 : List Blk) => sameT_call _ (ownT leR) (Nat.le_refl _) (okT_own _ (okT_bulk _ (by simp [leR, ofT, nameT, threeT, oneT, Tm.bulk, bulks, ByteArray.size]))) w2 leR (L1 :: H) (by simp)
  have S2 := fun (w2 : Nat) (L1 : List Blk) => sameT_call _ (ownT eqR) (Nat.le_refl _) (okT_own _ (okT_bulk _ (by simp [eqR, ofT, nameT, Tm.bulk, bulks, ByteArray.size]))) w2 eqR (L1 :: H) (by simp)
  rw [same_own] at S1 S2
  unfold pushR at P1' P2
  rw [sort_le, fsz_leT, psh_le] at P1'
  rw [sort_eq, fsz_eqT, psh_eq] at P2
  simp [encD, sc3, encS, encS1] at P1' P2
  simp only [leT, eqT, leR, eqR] at P1' P2 S1 S2
  simp [ownT, ownT.ownTs, ofT, nameT, threeT, oneT, Tm.enc, encs, rowF] at hx hp hq f1 f2 f3 f4 f5 f6 f7 f8 f9 P1' P2 S1 S2
  simp [Try.f5, h3, h1, hx, hp, hq, f1, f2, f3, f4, f5, f6, f7, f8, f9, P1', P2, S1, S2, hH]
end Go.GL.Seat
