/-
  GL, part Q: every operation that touches no state.
-/
import Derived.Test.YtafgloejojikoaaMGlP
set_option linter.unusedSimpArgs false
set_option linter.unusedVariables false
/-! GL, part Q: every operation that touches no state. -/
namespace Go.GL

section
variable {P : Program} {T : Tab} (hT : TOk P T) {F : FM} {φ : PM} {S : Heap} {w : World} (hI : Inv F φ S w)

theorem rep_bool {b : Bool} {v : Value} (h : Rep F φ (.bool b) v) : v = .bool b := by
  cases h with | data p v hl h => cases h; rfl
theorem rep_int {k : IntKind} {n : Int} {v : Value} (h : Rep F φ (.int k n) v) : v = .int k n := by
  cases h with | data p v hl h => cases h; rfl
theorem rep_str {s : ByteArray} {v : Value} (h : Rep F φ (.str s) v) : v = .string s := by
  cases h with | data p v hl h => cases h; rfl
theorem Rep.bool' (b : Bool) : Rep F φ (.bool b) (.bool b) := .data _ _ rfl (.bool b)
theorem Rep.int' (k : IntKind) (n : Int) : Rep F φ (.int k n) (.int k n) := .data _ _ rfl (.int k n)
theorem Rep.str' (s : ByteArray) : Rep F φ (.str s) (.string s) := .data _ _ rfl (.str s)
theorem rep_iface {t : TypeId} {p : PV} {v : Value} (h : Rep F φ (.iface t p) v) : ∃ u, v = .iface t u ∧ RepD F p u := by
  cases h with
  | data p v hl h => cases h with
    | iface t p u h => exact ⟨u, rfl, h⟩
theorem rep_lst {full : Bool} {xs : List PV} {v : Value} (h : Rep F φ (.lst full xs) v) : ∃ (a : Option Addr) (b o cap sz : Nat) (cv : Nat → Nat → Value), v = .slice a xs.length cap ∧ xs.length ≤ cap ∧ (full = true → cap = xs.length) ∧ (xs ≠ [] → a = some ⟨b, o, none⟩) ∧
    (∀ x ∈ xs, (cellsOf x).length = sz) ∧ (∀ x ∈ xs, ∀ c ∈ cellsOf x, one c = true) ∧
    (∀ (i : Nat) (x : PV) (j : Nat) (c : PV), xs[i]? = some x → (cellsOf x)[j]? = some c → F b (o + i * sz + j) = some (cv i j)) ∧
    (∀ (i : Nat) (x : PV) (j : Nat) (c : PV), xs[i]? = some x → (cellsOf x)[j]? = some c → RepD F c (cv i j)) := by
  cases h with | data p v hl h =>
    cases h with | lst full xs a b o cap sz cv hc hf ha hs h1 hF hR => exact ⟨a, b, o, cap, sz, cv, rfl, hc, hf, ha, hs, h1, hF, hR⟩

theorem toList_eqb (a b : ByteArray) : (a.toList == b.toList) = decide (a = b) := by
  rw [Bool.eq_iff_iff]
  simp only [beq_iff_eq, decide_eq_true_eq, ByteArray.toList_eq]
  constructor
  · intro h
    cases a; cases b
    simp only [ByteArray.mk.injEq]
    exact Array.toList_inj.1 h
  · rintro rfl; rfl

theorem eqGuard_int (P : Program) (op : BinOp) (t : TypeId) (x y : Operand) (k k' : IntKind) (n m : Int) (w : World) : (eqGuard op t x y (.int k n) (.int k' m)).run P w = .ok () w := by cases op <;> rfl
theorem eqGuard_str (P : Program) (op : BinOp) (t : TypeId) (x y : Operand) (n m : ByteArray) (w : World) : (eqGuard op t x y (.string n) (.string m)).run P w = .ok () w := by cases op <;> rfl
theorem eqGuard_bool (P : Program) (op : BinOp) (t : TypeId) (x y : Operand) (n m : Bool) (w : World) : (eqGuard op t x y (.bool n) (.bool m)).run P w = .ok () w := by cases op <;> rfl

theorem run_equalIn_bool (d : Nat) {t : Nat} {D : TypeDesc} {n m : Bool} {w : World} (hr : (underlying t).run P w = .ok D w) (he : D = .bool) : (Op.equalIn (d + 1) t (.bool n) (.bool m)).run P w = .ok (n == m) w := by
  subst he
  simp only [Op.equalIn, Sem.run_bind, hr, Result.andThen_ok, Sem.run_pure]

theorem run_equal_bool (hT : TOk P T) {t : Nat} (h : isBoolT T t = true) (n m : Bool) (w : World) : (Op.equal t (.bool n) (.bool m)).run P w = .ok (n == m) w := by
  unfold isBoolT at h
  cases ht : T t with
  | none => rw [ht] at h; cases h
  | some ti =>
    rw [ht] at h
    simp only [beq_iff_eq] at h
    obtain ⟨D, hD, hr, he⟩ := hT.und_run ht w
    rw [h] at he
    exact run_equalIn_bool 9999 hr (by cases D <;> first | rfl | simp [tdOf] at he)

theorem run_iface (hT : TOk P T) {t : Nat} (h : isIfaceT T t = true) (w : World) : ∃ ms, (underlying t).run P w = .ok (.interface ms) w := by
  unfold isIfaceT at h
  cases ht : T t with
  | none => rw [ht] at h; cases h
  | some ti =>
    rw [ht] at h
    simp only [beq_iff_eq] at h
    obtain ⟨D, hD, hr, he⟩ := hT.und_run ht w
    rw [h] at he
    cases D <;> simp [tdOf] at he
    exact ⟨_, hr⟩

theorem eqGuard_iface (P : Program) (op : BinOp) (t : TypeId) (x y : Operand) (t1 : TypeId) (v : Value) (w : World) : (eqGuard op t x y (.iface t1 v) .nilIface).run P w = .ok () w := by cases op <;> rfl
theorem eqGuard_nil (P : Program) (op : BinOp) (t : TypeId) (x y : Operand) (h : (isConst x || isConst y) = true) (w : World) : (eqGuard op t x y .nilIface .nilIface).run P w = .ok () w := by
  cases op <;> cases x <;> cases y <;> simp [isConst] at h <;> rfl
theorem run_equalIn_ifn (d : Nat) {t : Nat} {ms} {w : World} (hr : (underlying t).run P w = .ok (.interface ms) w) (t1 : TypeId) (v : Value) : (Op.equalIn (d + 1) t (.iface t1 v) .nilIface).run P w = .ok false w := by
  simp only [Op.equalIn, Sem.run_bind, hr, Result.andThen_ok, Sem.run_pure]
theorem run_equalIn_nil (d : Nat) {t : Nat} {ms} {w : World} (hr : (underlying t).run P w = .ok (.interface ms) w) : (Op.equalIn (d + 1) t .nilIface .nilIface).run P w = .ok true w := by
  simp only [Op.equalIn, Sem.run_bind, hr, Result.andThen_ok, Sem.run_pure]
theorem run_equal_ifn {t : Nat} {ms} {w : World} (hr : (underlying t).run P w = .ok (.interface ms) w) (t1 : TypeId) (v : Value) : (Op.equal t (.iface t1 v) .nilIface).run P w = .ok false w := run_equalIn_ifn 9999 hr t1 v
theorem run_equal_nil {t : Nat} {ms} {w : World} (hr : (underlying t).run P w = .ok (.interface ms) w) : (Op.equal t .nilIface .nilIface).run P w = .ok true w := run_equalIn_nil 9999 hr
theorem rep_nilIface {v : Value} (h : Rep F φ .nilIface v) : v = .nilIface := by
  cases h with | data p v hl h => cases h; rfl

theorem key_und (hT : TOk P T) {t : Nat} {ti : TI} (ht : T t = some ti) {a b : PV} (ha : keyOk ti.td a = true) (hb : keyOk ti.td b = true) {u v : Value} (hu : Rep F φ a u) (hv : Rep F φ b v) (d : Nat) :
    one a = true ∧ one b = true ∧ ti.td.isAgg = false ∧ (Op.equalIn (d + 1) t u v).run P w = .ok (keyEq a b) w := by
  obtain ⟨D, hD, hr, hd⟩ := hT.und_run ht w
  rw [← hd] at ha hb
  cases D <;> simp only [tdOf] at ha hb <;> try (cases a <;> simp [keyOk] at ha; done)
  · cases a <;> simp [keyOk] at ha
    cases b <;> simp [keyOk] at hb
    have e1 := rep_bool hu
    have e2 := rep_bool hv
    subst e1 e2
    exact ⟨rfl, rfl, by rw [← hd]; rfl, by rw [Go.run_equalIn_bool w d t _ _ hD]; rfl⟩
  · cases a <;> simp [keyOk] at ha
    cases b <;> simp [keyOk] at hb
    have e1 := rep_int hu
    have e2 := rep_int hv
    subst e1 e2
    subst ha hb
    exact ⟨rfl, rfl, by rw [← hd]; rfl, by rw [run_equalIn_int w d t _ _ _ _ hD]; rfl⟩
  · cases a <;> simp [keyOk] at ha
    cases b <;> simp [keyOk] at hb
    have e1 := rep_str hu
    have e2 := rep_str hv
    subst e1 e2
    exact ⟨rfl, rfl, by rw [← hd]; rfl, by rw [run_equalIn_string w d t _ _ hD, toList_eqb]; rfl⟩

theorem eqFs_ok (hT : TOk P T) {xs ys : List PV} {X Y : Array Value} (hx : RC F φ xs X) (hy : RC F φ ys Y) (d : Nat) : ∀ (fs : List Field) (r : Bool), fs.all (fun f => f.name != "_") = true → eqFs T (fs.map fun f => (f.offset, f.type)) xs ys = some r →
    (Op.eqFields (d + 1) X Y fs).run P w = .ok r w
  | [], r, _, h => by
    simp only [List.map_nil, eqFs, Option.some.injEq] at h
    subst h
    rfl
  | f :: fs, r, hn, h => by
    simp only [List.all_cons, Bool.and_eq_true, bne_iff_ne, ne_eq] at hn
    simp only [List.map_cons, eqFs] at h
    cases hf : T f.type with
    | none => rw [hf] at h; cases h
    | some fi =>
    cases ha : xs[f.offset]? with
    | none => rw [hf, ha] at h; cases h
    | some a =>
    cases hb : ys[f.offset]? with
    | none => rw [hf, ha, hb] at h; cases h
    | some b =>
    rw [hf, ha, hb] at h
    simp only [] at h
    split at h
    case isFalse => cases h
    rename_i hk
    obtain ⟨_, u, hu, hru⟩ := hx.2 _ a ha
    obtain ⟨_, v, hv, hrv⟩ := hy.2 _ b hb
    obtain ⟨_, _, hag, he⟩ := key_und (w := w) hT hf hk.1 hk.2 hru hrv d
    have h1 := hT.run_isAgg hf w
    rw [hag] at h1
    have p1 : (part f.type X f.offset).run P w = .ok u w := by simp [part, h1, hu]
    have p2 : (part f.type Y f.offset).run P w = .ok v w := by simp [part, h1, hv]
    have ih := eqFs_ok hT hx hy d fs r hn.2
    unfold Op.eqFields
    rw [if_pos hn.1]
    simp only [Sem.run_bind, p1, p2, he, Result.andThen_ok]
    cases hke : keyEq a b with
    | true =>
      rw [hke] at h
      simpa using ih h
    | false =>
      rw [hke] at h
      simp only [cond_false, Option.some.injEq] at h
      subst h
      simp

theorem eqAgg_ok (hT : TOk P T) {op : BinOp} {t : TypeId} {x y : Operand} {xs ys : List PV} {X Y : Array Value} (hx : RC F φ xs X) (hy : RC F φ ys Y) {r : OpR} (h : eqAgg T op t xs ys = some r) :
    Tells P F φ w (do eqGuard op t x y (.agg X) (.agg Y); binOp op t (.agg X) (.agg Y)) r := by
  unfold eqAgg at h
  cases ht : T t with
  | none => rw [ht] at h; cases h
  | some ti =>
  rw [ht] at h
  simp only [] at h
  cases hc : ti.cmp with
  | false => rw [hc] at h; cases h
  | true =>
  rw [hc] at h
  simp only [cond_true] at h
  obtain ⟨c1, c2, c3⟩ := hT.cmp t ti ht hc
  obtain ⟨D, hD, _, hd⟩ := hT.und_run ht w
  split at h
  case h_2 => cases h
  rename_i fs htd
  have hD' : ∃ gs, D = .struct gs := by rw [htd] at hd; cases D <;> simp [tdOf] at hd; exact ⟨_, rfl⟩
  obtain ⟨gs, rfl⟩ := hD'
  have hfo : P.fieldsOf t = gs := by unfold Program.fieldsOf; rw [hD]
  rw [htd] at hd
  simp only [tdOf, TD.struct.injEq] at hd
  have hg := run_eqGuard_agg (P := P) w op t x y X Y c2
  have heq : ∀ b, eqFs T fs xs ys = some b → (Op.equalIn 10000 t (.agg X) (.agg Y)).run P w = .ok b w := by
    intro b hb
    rw [run_equalIn_struct w 9999 t X Y (by rw [hfo]; exact hD) c1]
    exact eqFs_ok hT hx hy 9998 _ b c3 (by rw [hfo, hd]; exact hb)
  split at h
  · obtain ⟨b, hb, rfl⟩ := Option.map_eq_some_iff.1 h
    exact ⟨.bool b, by simp only [Sem.run_bind, hg, Result.andThen_ok, run_eql_struct, heq b hb], .bool' _⟩
  · obtain ⟨b, hb, rfl⟩ := Option.map_eq_some_iff.1 h
    exact ⟨.bool (!b), by simp only [Sem.run_bind, hg, Result.andThen_ok, run_neq_struct, heq b hb], .bool' _⟩
  · cases h

theorem rep_agg' {cs : List PV} {v : Value} (h : Rep F φ (.agg cs) v) : ∃ C, v = .agg C ∧ RC F φ cs C := by
  cases h with
  | data p v hl h => simp [isLeaf] at hl
  | agg cs vs hl h1 hr =>
    refine ⟨vs, rfl, hl, fun j c hc => ⟨h1 c (List.mem_of_getElem? hc), ?_⟩⟩
    have hj : j < vs.size := by have := (List.getElem?_eq_some_iff.1 hc).1; omega
    exact ⟨vs[j], by simp [hj], hr j c _ hc (by simp [hj])⟩

include hT in
theorem binOp_ok {op : BinOp} {t : TypeId} {x y : Operand} {p q : PV} {a b : Value} (ha : Rep F φ p a) (hb : Rep F φ q b) {r : OpR} (h : binOpP T op t (isConst x || isConst y) p q = some r) :
    Tells P F φ w (do eqGuard op t x y a b; binOp op t a b) r := by
  unfold binOpP at h
  split at h
  · rename_i k n k' m
    have ea := rep_int ha
    have eb := rep_int hb
    subst ea eb
    have hg := eqGuard_int P op t x y k k' n m w
    split at h
    · cases h
    · rename_i hk
      have hk : k = k' := by simpa using hk
      subst hk
      have mk : ∀ (u : Value) (z : PV), (binOp op t (.int k n) (.int k m)).run P w = .ok u w → Rep F φ z u → Tells P F φ w (do eqGuard op t x y (.int k n) (.int k m); binOp op t (.int k n) (.int k m)) (.val z) :=
        fun u z h1 h2 => ⟨u, by simp [hg, h1], h2⟩
      split at h <;> (try (injection h with h; subst h))
      · exact mk _ _ (by simp [binOp, Op.intArith]) (.int' _ _)
      · exact mk _ _ (by simp [binOp, Op.intArith]) (.int' _ _)
      · exact mk _ _ (by simp [binOp, Op.intArith]) (.int' _ _)
      · exact mk _ _ (by simp [binOp, Op.intCmp]) (.bool' _)
      · exact mk _ _ (by simp [binOp, Op.intCmp]) (.bool' _)
      · exact mk _ _ (by simp [binOp, Op.intCmp]) (.bool' _)
      · exact mk _ _ (by simp [binOp, Op.intCmp]) (.bool' _)
      · exact mk _ _ (by simp [binOp, Op.intCmp]) (.bool' _)
      · exact mk _ _ (by simp [binOp, Op.intCmp]) (.bool' _)
      · split at h <;> (injection h with h; subst h)
        · rename_i hm
          subst hm
          exact .panic (u := .iface P.rt.errorString (strVal "integer divide by zero")) (w' := w) (by simp [hg, binOp, Op.intDiv, runtimePanic]) (Quiet.refl w)
        · rename_i hm
          exact mk _ _ (by simp [binOp, Op.intDiv, hm]) (.int' _ _)
      · split at h <;> (injection h with h; subst h)
        · rename_i hm
          subst hm
          exact .panic (u := .iface P.rt.errorString (strVal "integer divide by zero")) (w' := w) (by simp [hg, binOp, Op.intDiv, runtimePanic]) (Quiet.refl w)
        · rename_i hm
          exact mk _ _ (by simp [binOp, Op.intDiv, hm]) (.int' _ _)
      · cases h
  · rename_i n m
    have ea := rep_str ha
    have eb := rep_str hb
    subst ea eb
    have hg := eqGuard_str P op t x y n m w
    split at h <;> (try (injection h with h; subst h))
    · exact ⟨.bool (decide (n = m)), by simp [hg, binOp, Op.stringOp, toList_eqb], .bool' _⟩
    · exact ⟨.bool (!decide (n = m)), by simp [hg, binOp, Op.stringOp, toList_eqb], .bool' _⟩
    · split at h <;> (try (injection h with h; subst h))
      · rename_i hl
        unfold lim at hl
        have h63 : ¬ (((n.size + m.size : Nat) : Int) > IntKind.i64.max) := by
          have : IntKind.i64.max = 9223372036854775807 := by decide
          omega
        exact ⟨.string (n ++ m), by simp only [Sem.run_bind, hg, Result.andThen_ok, binOp, Op.stringOp, if_neg h63, Sem.run_pure], .str' _⟩
      · cases h
    · exact ⟨.bool (Op.bytesLess n.toList m.toList), by simp [hg, binOp, Op.stringOp], .bool' _⟩
    · exact ⟨.bool (!(Op.bytesLess n.toList m.toList || decide (n = m))), by simp [hg, binOp, Op.stringOp, toList_eqb], .bool' _⟩
    · cases h
  · rename_i n m
    have ea := rep_bool ha
    have eb := rep_bool hb
    subst ea eb
    have hg := eqGuard_bool P op t x y n m w
    split at h
    · rename_i hb
      have he := run_equal_bool hT hb n m w
      split at h <;> (try (injection h with h; subst h))
      · exact ⟨.bool (n == m), by simp [hg, binOp, he], .bool' _⟩
      · exact ⟨.bool (n != m), by simp only [Sem.run_bind, hg, Result.andThen_ok, binOp, he, Sem.run_pure]; rfl, .bool' _⟩
      · cases h
    · cases h
  · rename_i t1 p1
    obtain ⟨v, rfl, _⟩ := rep_iface ha
    have eb := rep_nilIface hb
    subst eb
    have hg := eqGuard_iface P op t x y t1 v w
    split at h
    · rename_i hi
      obtain ⟨ms, hr⟩ := run_iface hT hi w
      have he := run_equal_ifn hr t1 v
      split at h <;> (try (injection h with h; subst h))
      · exact ⟨.bool false, by simp [hg, binOp, he], .bool' _⟩
      · exact ⟨.bool true, by simp [hg, binOp, he], .bool' _⟩
      · cases h
    · cases h
  · have ea := rep_nilIface ha
    have eb := rep_nilIface hb
    subst ea eb
    split at h
    · rename_i hi
      simp only [Bool.and_eq_true] at hi
      have hg := eqGuard_nil P op t x y hi.2 w
      obtain ⟨ms, hr⟩ := run_iface hT hi.1 w
      have he := run_equal_nil (P := P) hr
      split at h <;> (try (injection h with h; subst h))
      · exact ⟨.bool true, by simp [hg, binOp, he], .bool' _⟩
      · exact ⟨.bool false, by simp [hg, binOp, he], .bool' _⟩
      · cases h
    · cases h
  · obtain ⟨X, rfl, hX⟩ := rep_agg' ha
    obtain ⟨Y, rfl, hY⟩ := rep_agg' hb
    exact eqAgg_ok hT hX hY h
  · cases h

/-! ### slices and addresses -/
theorem run_indexAt_in (hT : TOk P T) {t e : Nat} {ti ei : TI} (ht : T t = some ti) (htd : ti.td = .slice e) (he : T e = some ei) (k : IntKind) (i : Int) (b o len cap : Nat) (h0 : 0 ≤ i) (h1 : i < len) :
    (Instr.indexAt t (.slice (some ⟨b, o, none⟩) len cap) (.int k i)).run P w = .ok (.pointer (some ⟨b, o + i.toNat * ei.size, none⟩)) w := by
  obtain ⟨D, hD, hr, hd⟩ := hT.und_run ht w
  have hD' : D = .slice e := by rw [htd] at hd; cases D <;> simp [tdOf] at hd; rw [hd]
  subst hD'
  have hz := hT.run_size he w
  simp [Instr.indexAt, asIntOf, hr, h0, h1, hz, add_off]

theorem run_indexAt_out (hT : TOk P T) {t e : Nat} {ti : TI} (ht : T t = some ti) (htd : ti.td = .slice e) (k : IntKind) (i : Int) (a : Option Addr) (len cap : Nat) (h : i < 0 ∨ (len : Int) ≤ i) :
    ∃ u w', (Instr.indexAt t (.slice a len cap) (.int k i)).run P w = .halt (.panic u) w' ∧ Quiet w w' := by
  obtain ⟨D, hD, hr, hd⟩ := hT.und_run ht w
  have hD' : D = .slice e := by rw [htd] at hd; cases D <;> simp [tdOf] at hd; rw [hd]
  subst hD'
  cases a with
  | none =>
    obtain ⟨u, w', hb, hq⟩ := run_bounds P w (α := Value) k i 0 .index
    refine ⟨u, w', ?_, hq⟩
    simp [Instr.indexAt, asIntOf, hr, hb]
  | some a =>
    obtain ⟨u, w', hb, hq⟩ := run_bounds P w (α := Value) k i len .index
    refine ⟨u, w', ?_, hq⟩
    have hn : ¬ (0 ≤ i ∧ i < (len : Int)) := by omega
    simp [Instr.indexAt, asIntOf, hr, hb, hn]

theorem pickE_ok (hT : TOk P T) {t e : Nat} {ti ei : TI} (ht : T t = some ti) (htd : ti.td = .slice e) (he : T e = some ei) {xs : List PV} {a : Option Addr} {b o cap sz : Nat} {cv : Nat → Nat → Value}
    (had : xs ≠ [] → a = some ⟨b, o, none⟩) (hs : ∀ x ∈ xs, (cellsOf x).length = sz) (h1 : ∀ x ∈ xs, ∀ c ∈ cellsOf x, one c = true)
    (hF : ∀ (i : Nat) (x : PV) (j : Nat) (c : PV), xs[i]? = some x → (cellsOf x)[j]? = some c → F b (o + i * sz + j) = some (cv i j))
    (hR : ∀ (i : Nat) (x : PV) (j : Nat) (c : PV), xs[i]? = some x → (cellsOf x)[j]? = some c → RepD F c (cv i j))
    (k : IntKind) {i : Int} {r : OpR} (h : (if i < 0 then some (.panic .junk) else pickE ei xs i.toNat) = some r) : Tells P F φ w (Instr.indexAt t (.slice a xs.length cap) (.int k i)) r := by
  split at h
  · rename_i hi
    injection h with h
    subst h
    obtain ⟨u, w', hb, hq⟩ := run_indexAt_out (w := w) hT ht htd k i a xs.length cap (.inl hi)
    exact .panic hb hq
  · rename_i hi
    unfold pickE at h
    cases hx : xs[i.toNat]? with
    | none =>
      rw [hx] at h
      injection h with h
      subst h
      have hle : xs.length ≤ i.toNat := by
        rcases Nat.lt_or_ge i.toNat xs.length with h' | h'
        · rw [List.getElem?_eq_getElem h'] at hx; cases hx
        · exact h'
      obtain ⟨u, w', hb, hq⟩ := run_indexAt_out (w := w) hT ht htd k i a xs.length cap (.inr (by omega))
      exact .panic hb hq
    | some x =>
      rw [hx] at h
      simp only [] at h
      split at h
      · rename_i hlen
        injection h with h
        subst h
        have hlt := (List.getElem?_eq_some_iff.1 hx).1
        have hm := List.mem_of_getElem? hx
        have hsz : sz = ei.size := by rw [← hs x hm, hlen]
        subst hsz
        have ha' := had (by rintro rfl; simp at hx)
        subst ha'
        refine ⟨_, run_indexAt_in hT ht htd he k i b o xs.length cap (by omega) (by omega), ?_⟩
        have := Rep.rptr (F := F) (φ := φ) (cellsOf x) 0 b (o + i.toNat * ei.size) (cv i.toNat) (h1 x hm) (fun j c hc => hF _ x j c hx hc) (fun j c hc => hR _ x j c hx hc)
        simpa using this
      · cases h

include hT hI in
theorem indexP_ok {t : Nat} {x i : PV} {a b : Value} (ha : Rep F φ x a) (hb : Rep F φ i b) {r : OpR} (h : indexP T t x i S = some r) : Tells P F φ w (Instr.indexAt t a b) r := by
  unfold indexP at h
  split at h
  · rename_i ti k i ht
    have eb := rep_int hb
    subst eb
    split at h
    · rename_i e htd
      cases he : T e with
      | none => rw [he] at h; cases h
      | some ei =>
        rw [he] at h
        simp only [] at h
        split at h
        · rename_i full xs
          obtain ⟨ad, bk, o, cap, sz, cv, rfl, hc, hf, had, hs, h1, hF, hR⟩ := rep_lst ha
          exact pickE_ok hT ht htd he had hs h1 hF hR k h
        · rename_i d kk n sz0
          cases ha with
          | data p v hl h => simp [isLeaf] at hl
          | own d kk n sz0 b S0 cap hp hn hS =>
          split at h
          · rename_i sz xs hB
            split at h
            · rename_i hh
              obtain ⟨rfl, rfl, hz⟩ := hh
              obtain ⟨b', C, tt, g1, g2, g3, g4, g5, g6⟩ := hI.blk d kk _ hB
              rw [g1] at hp
              injection hp with hp
              simp only [Prod.mk.injEq] at hp
              obtain ⟨rfl, rfl, rfl⟩ := hp
              split at h
              · rename_i hi
                injection h with h
                subst h
                obtain ⟨u, w', hb, hq⟩ := run_indexAt_out (w := w) hT ht htd k i (some ⟨b', 0, none⟩) xs.length cap hi
                exact .panic hb hq
              · rename_i hi
                injection h with h
                subst h
                refine ⟨_, run_indexAt_in hT ht htd he k i b' 0 xs.length cap (by omega) (by omega), ?_⟩
                have := Rep.eptr (F := F) (φ := φ) d kk xs.length i.toNat 0 b' C.size ei.size g1 hz
                simpa using this
            · cases h
          · rename_i sz xs hB
            split at h
            · rename_i hh
              obtain ⟨rfl, rfl⟩ := hh
              obtain ⟨b', S1, cv, g1, g2, g3, g4, g5⟩ := hI.blk d kk _ hB
              rw [g1] at hp
              injection hp with hp
              simp only [Prod.mk.injEq] at hp
              obtain ⟨rfl, rfl, rfl⟩ := hp
              exact pickE_ok (o := 0) (cv := cv) hT ht htd he (fun _ => rfl) g2 g3 (fun i x j c hx hc => by rw [Nat.zero_add]; exact g4 i x j c hx hc) g5 k h
            · cases h
          · cases h
        · cases h
    · cases h
  · cases h

end
end Go.GL
