/-
  GL, part Aa: a law's row, closed: what the interpreter tells of every value by value of the parameters' types.
-/
import Derived.Test.YtafgloejojikoaaMGlT
import Derived.Carry
import Derived.ProofKit
import Derived.OpenShut
set_option linter.unusedSimpArgs false
set_option linter.unusedVariables false
/-! GL, part Aa: a law's row, closed: what the interpreter tells of every value by value of the parameters' types. -/
namespace Go.GL
open Go.ChangeShapes Go.WideShapes Go.ChangeAt Go.RowKit

section
variable {P : Program} {T : Tab} {H : Type} {enc : TypeId × Value → H} {W : World} {base : Nat}

theorem read_rep (hT : TOk P T) {t : Nat} {v : Value} {b : Nat} {K : Prop} {p : PV} (h : Read T W t v.cells.toList b K p) (hok : Value.okWide P W .any base t v) : RepD (cellsOfW W) p v := by
  have leaf : ∀ {p : PV}, Read T W t v.cells.toList b K p → cellsOf p = [p] → v.cells = #[v] → RepD (cellsOfW W) p v := by
    intro p h hp hv
    exact h.rep 0 p v (by rw [hp]; rfl) (by rw [hv]; rfl)
  have h' := h
  obtain ⟨ht', _, _, _, _, _⟩ := h'
  cases ht' with
  | bool _ ti b ht hd =>
    obtain ⟨D, hD, _, e⟩ := hT.und_run ht W
    have : D = .bool := by rw [hd] at e; cases D <;> first | rfl | simp [tdOf] at e
    subst this
    obtain ⟨b', rfl⟩ := okWide_bool hD hok
    exact leaf h rfl rfl
  | int _ ti k n ht hd hw =>
    obtain ⟨D, hD, _, e⟩ := hT.und_run ht W
    have : D = .int k := by rw [hd] at e; cases D <;> simp [tdOf] at e; rw [e]
    subst this
    obtain ⟨n', rfl⟩ := okWide_int hD hok
    exact leaf h rfl rfl
  | str _ ti s ht hd =>
    obtain ⟨D, hD, _, e⟩ := hT.und_run ht W
    have : D = .string := by rw [hd] at e; cases D <;> first | rfl | simp [tdOf] at e
    subst this
    obtain ⟨s', rfl⟩ := okWide_string hD hok
    exact leaf h rfl rfl
  | lst _ ti e' full xs ht hd hx =>
    obtain ⟨hD, _⟩ := td_slice hT ht hd W
    obtain ⟨a, len, cap, rfl⟩ := okWide_slice hD hok
    exact leaf h rfl rfl
  | agg _ ti fs parts ht hd hl hp =>
    obtain ⟨D, hD, _, e⟩ := hT.und_run ht W
    have : ∃ fs', D = .struct fs' := by rw [hd] at e; cases D <;> simp [tdOf] at e; exact ⟨_, rfl⟩
    obtain ⟨fs', rfl⟩ := this
    obtain ⟨cs, rfl, _⟩ := okWide_struct hD hok
    have hlen := h.len
    simp only [Value.cells, cellsOf, Array.length_toList] at hlen
    exact .agg _ cs hlen h.one fun j c v hc hv => h.rep j c v hc (by simpa [Value.cells] using hv)

/-- Of all arguments. -/
theorem args_read (hT : TOk P T) {G : Nat → Bool} (hG : ∀ t, G t = true → ∃ ti, T t = some ti ∧ goodTI T G ti = true) :
    ∀ (ts : List TypeId) (vs : List Value) (ds : List (DataW H)) (ps : List MemPlace), (∀ t ∈ ts, G t = true) → DataW.TrodAll enc P W 0 (fun _ => true) true ts vs ds ps →
      (∀ (j : Nat) t v, ts[j]? = some t → vs[j]? = some v → Value.okWide P W .any base t v) →
      ∃ as : List PV, as.length = ts.length ∧ (∀ (j : Nat) t p, ts[j]? = some t → as[j]? = some p → HasT T t p) ∧ psizeL as ≤ bulkL ds ∧ Reps (cellsOfW W) (fun _ _ _ => none) as vs ∧ ((∀ w ∈ DataW.weightsEach P ts ds, w ≤ reachBytes) → ∀ a ∈ as, pmax a ≤ reachBytes)
  | [], vs, ds, ps, _, h, _ => by
    obtain ⟨rfl, rfl, rfl⟩ := trodAll_nil h
    exact ⟨[], rfl, by simp, by simp [psizeL], ⟨rfl, by simp⟩, by simp⟩
  | t :: ts, vs, ds, ps, hg, h, hok => by
    obtain ⟨v, vs', d, ds', p, q, rfl, rfl, rfl, h1, h2⟩ := trodAll_cons h
    obtain ⟨fuel, hf⟩ := h1
    obtain ⟨a, ha⟩ := trod_read hT hG fuel t _ d p (hg t (by simp)) hf
    have har := read_rep hT ha (hok 0 t v rfl rfl)
    obtain ⟨as, e1, e2, e3, ⟨e4, e5⟩, e6⟩ := args_read hT hG ts vs' ds' q (fun t ht => hg t (by simp [ht])) h2 (fun j t v h3 h4 => hok (j + 1) t v h3 h4)
    refine ⟨a :: as, by simp [e1], fun j t' p' h3 h4 => ?_, ?_, ⟨by simp [e4], fun j c v' h3 h4 => ?_⟩, fun hw a' ha' => ?_⟩
    · cases j with
      | zero => simp at h3 h4; subst h3 h4; exact ha.has
      | succ j => exact e2 j t' p' h3 h4
    · have := ha.size
      simp only [psizeL, bulkL]
      omega
    · cases j with
      | zero => simp at h3 h4; subst h3 h4; exact .of_data har
      | succ j => exact e5 j c v' h3 h4
    · simp only [DataW.weightsEach, List.mem_append] at hw
      rcases List.mem_cons.1 ha' with rfl | ha'
      · exact ha.big fun w hw' => hw w (.inl hw')
      · exact e6 (fun w hw' => hw w (.inr hw')) a' ha'

theorem inv_start (W : World) : Inv (cellsOfW W) (fun _ _ _ => none) [[]] W :=
  ⟨fun b o v h => h, fun d k n x h => (by cases h), fun d k B h => (by
    have := at_down (H := []) h
    exact absurd this.2 (by simp)), fun d k B d' k' B' b h => (by
    have := at_down (H := []) h
    exact absurd this.2 (by simp)), fun d k live sz xs n x h => (by
    have := at_down (H := []) h
    exact absurd this.2 (by simp))⟩

/-- What a law that tells 'true' comes to. -/
theorem law_calls (hT : TOk P T) {O : Orc} (hO : CallOk P O) {G : Nat → Bool} (hG : ∀ t, G t = true → ∃ ti, T t = some ti ∧ goodTI T G ti = true) {f : FuncId} {fn : Func} {c : Code} (hf : P.funcs[f]? = some fn) (hb : fn.body = some c) (hn : (fn.name == "runtime.NumGoroutine") = false)
    {args : Array Value} {ds : List (DataW H)} {ps : List MemPlace} (hg : ∀ t ∈ fn.params.toList, G t = true) (h : DataW.TrodAll enc P W 0 (fun _ => true) true fn.params.toList args.toList ds ps)
    (hok : ∀ (j : Nat) t v, fn.params[j]? = some t → args[j]? = some v → Value.okWide P W .any base t v)
    (hcall : ∀ as : List PV, as.length = fn.params.toList.length → (∀ (j : Nat) t p, fn.params.toList[j]? = some t → as[j]? = some p → HasT T t p) → psizeL as ≤ bulkL ds → ((∀ w ∈ DataW.weightsEach P fn.params.toList ds, w ≤ reachBytes) → ∀ a ∈ as, pmax a ≤ reachBytes) → ∃ H', O.call f 1 as [[]] = some (.ret (.bool true), H')) :
    Calls P f args W fun e W' => e = .returned (.bool true) ∧ Below W.heap.size W W' := by
  obtain ⟨as, e1, e2, e3, e4, e5⟩ := args_read hT hG _ _ _ _ hg h (fun j t v h1 h2 => hok j t v (by simpa using h1) (by simpa using h2))
  obtain ⟨H', hc⟩ := hcall as e1 e2 e3 e5
  have hgo := hO f 1 as [[]] _ H' hc (cellsOfW W) (fun _ _ _ => none) W args (inv_start W) e4
  have henter : (callFunc f args).run P W = .ok (.enter f args) W := by
    have h1 : fn.name ≠ "runtime.NumGoroutine" := by simpa using hn
    simp [callFunc, hf, h1, hb]
  unfold Goes at hgo
  rw [henter] at hgo
  refine Calls.mono hgo ?_
  rintro e W' ⟨F', φ', a1, _, a3⟩
  cases e with
  | returned v =>
    have hv := rep_bool a3
    subst hv
    refine ⟨rfl, a1.os, a1.tape, a1.output, a1.size, fun k hk => (a1.block k hk fun d k' B hB => ?_).1⟩
    exact absurd (at_down (H := []) hB).2 (by simp)
  | panicked c => exact a3.elim
  | outgrown => exact a3.elim

/-- Arguments read behind the call as they did. -/
theorem args_stay (hl : laidOutB P = true) {W' : World} (hb : Below W.heap.size W W') {sp : Nat → Bool} : ∀ (ts : List TypeId) (vs : List Value) (ds : List (DataW H)) (ps : List MemPlace), (∀ t ∈ ts, P.readableRec t = true ∧ t < P.types.size) → DataW.TrodAll enc P W 0 (fun _ => true) true ts vs ds ps →
    (∀ p ∈ ps, p.block < W.heap.size) → (∀ p ∈ ps, sp p.block = true) → DataW.TrodAll enc P W' 0 sp true ts vs ds ps
  | [], vs, ds, ps, _, h, _, _ => by
    obtain ⟨rfl, rfl, rfl⟩ := trodAll_nil h
    exact trodAll_mk0
  | t :: ts, vs, ds, ps, hr, h, hlt, hs => by
    obtain ⟨v, vs', d, ds', p, q, rfl, rfl, rfl, h1, h2⟩ := trodAll_cons h
    refine trodAll_cons_mk (WideElems.Trod_stays hl (hr t (by simp)).1 (hr t (by simp)).2 h1 (fun x hx => hb.same (hlt x (by simp [hx]))) (fun x hx => hs x (by simp [hx]))) ?_
    exact args_stay hl hb ts vs' ds' q (fun t ht => hr t (by simp [ht])) h2 (fun x hx => hlt x (by simp [hx])) (fun x hx => hs x (by simp [hx]))

/-- The row's conclusion, of a law that tells 'true' and leaves what was there. -/
theorem law_post (hl : laidOutB P = true) {f : Func} {s : ChangeSpec} {fresh handsOn again : Bool} {args : Array Value} {ds gs : List (DataW H)} {before : List MemPlace} {W' : World}
    (hr : ∀ t ∈ f.params.toList, P.readableRec t = true ∧ t < P.types.size) (hW : DataW.Whole enc P f.params.toList s.vars false W args.toList ds gs before) (hv : s.vars = [])
    (hs : (s.fn H ds).results = [.lit (.bool true)] ∧ (s.fn H ds).args = ds ∧ (s.fn H ds).vars = []) {tb : TypeId} (hres : f.resultTypes = #[tb]) (htb : P.underlying tb = some .bool) (hb : Below W.heap.size W W') :
    s.post enc P f false fresh handsOn again W args (.bool true) W' := by
  have hlt := hW.lt
  have hW' := hW
  obtain ⟨p, q, hA, hV, rfl, hfz, hnd⟩ := hW'
  rw [hv] at hV
  obtain ⟨rfl, rfl⟩ := trodVars_none hV
  simp only [List.append_nil] at hW hlt hfz
  have hres' : ∀ (b : Nat) (sp : Nat → Bool) (hd : Bool), DataW.TrodAll enc P W' b sp hd f.resultTypes.toList ((Value.bool true).resultList f.resultTypes.size) [.lit (.bool true)] [] := by
    intro b sp hd
    rw [hres]
    exact trodAll_cons_mk (shut_bool htb _) trodAll_mk0
  have hstay : ∀ {sp : Nat → Bool}, (∀ x ∈ p, sp x.block = true) → DataW.TrodAll enc P W' 0 sp true f.params.toList args.toList ds p := fun hsp => args_stay hl hb _ _ _ _ hr hA hlt hsp
  refine ⟨ds, [], p, [], p, [], hW, ?_, ?_, ?_, hb.frame _, fun _ => ⟨ok_one hres rfl (okWide_bool_mk htb _), [.lit (.bool true)] ++ ds, [], ([] ++ p) ++ [], ⟨[] ++ p, [], trodAll_append (hstay (fun _ _ => rfl)) (hres' _ _ _), ?_, rfl, ?_, by simp⟩, ?_⟩⟩
  · simp only [List.append_nil]; rw [hs.1]; exact hres' _ _ _
  · simp only [List.append_nil]; rw [hs.2.1]; exact hstay (fun x hx => by simpa using hlt x hx)
  · simp only [List.append_nil]; rw [hs.2.2, hv]; rfl
  · rw [hv]; rfl
  · intro b off hp
    have hp' : MemPlace.cell b off ∈ p := by simpa using hp
    rw [hb.frozen (hlt _ hp')]
    exact hfz b off hp'
  · intro x hx _
    simpa using hx

end
end Go.GL
