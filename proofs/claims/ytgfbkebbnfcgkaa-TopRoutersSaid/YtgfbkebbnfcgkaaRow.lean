import Derived.Test.YtgfbkebbnfcgkaaBase
import Derived.ProofKit
import Derived.SizedLaws
import Derived.OpenShut
import Derived.Carry
import Derived.Deep.Matrix
import Derived.Deep.CondSized
namespace Go
open Go.ChangeShapes Go.WideShapes Go.ChangeAt Go.RowKit Go.Deep

section
variable {H : Type} {enc : TypeId × Value → H} {P : Program} {W : World}

theorem trodAll_below (hl : laidOutB P = true) {W' : World} (hb : Below W.heap.size W W') : ∀ (ts : List TypeId) (vs : List Value) (ds : List (DataW H)) (ps : List MemPlace), ts.all (fun t => P.readableRec t && decide (t < P.types.size)) = true →
    DataW.TrodAll enc P W 0 (fun _ => true) true ts vs ds ps → (∀ x ∈ ps, x.block < W.heap.size) → DataW.TrodAll enc P W' 0 (fun b => decide (b < W.heap.size)) true ts vs ds ps := by
  intro ts
  induction ts with
  | nil =>
    intro vs ds ps _ h _
    obtain ⟨rfl, rfl, rfl⟩ := trodAll_nil h
    exact trodAll_mk0
  | cons t ts ih =>
    intro vs ds ps hr h hlt
    obtain ⟨v, vs', d, ds', p, q, rfl, rfl, rfl, h1, h2⟩ := trodAll_cons h
    simp only [List.all_cons, Bool.and_eq_true, decide_eq_true_eq] at hr
    exact trodAll_cons_mk (Below.trod hl hr.1.1 hr.1.2 h1 hb (fun x hx => hlt x (by simp [hx]))) (ih _ _ _ hr.2 h2 (fun x hx => hlt x (by simp [hx])))

theorem law_post {fn : Func} {s : ChangeSpec} {fresh : Bool} {W' : World} {args : Array Value} {ds gs : List (DataW H)} {before : List MemPlace} {tb : TypeId} (hl : laidOutB P = true) (hv : s.vars = []) (hr : fn.resultTypes = #[tb]) (htb : P.underlying tb = some .bool)
    (ht : fn.params.toList.all (fun t => P.readableRec t && decide (t < P.types.size)) = true) (hs : (s.fn H ds).results = [.lit (.bool true)] ∧ (s.fn H ds).args = ds ∧ (s.fn H ds).vars = [])
    (hW : DataW.Whole enc P fn.params.toList s.vars false W args.toList ds gs before) (hF : Fr (fun _ => False) W W') : s.post enc P fn false fresh false false W args (.bool true) W' := by
  have hW' := hW
  obtain ⟨p, q, hA, hV, rfl, _, _⟩ := hW
  have hV2 := hV
  rw [hv] at hV2
  obtain ⟨rfl, rfl⟩ := trodVars_none hV2
  have hb : Below W.heap.size W W' := hF.below (Nat.le_refl _) (fun _ _ h => h)
  refine ⟨ds, [], p ++ [], [], p, [], hW', ?_, ?_, ?_, hb.frame _, fun h => by cases h⟩
  · rw [List.append_nil, hs.1, hr]
    exact trodAll_mk1 (shut_bool htb true)
  · rw [List.append_nil, hs.2.1]
    exact trodAll_below hl hb _ _ _ _ ht hA (fun x hx => hW'.lt x (by simp [hx]))
  · rw [List.append_nil, hs.2.2, hv]
    rfl

/-- A law's row, from its walk. -/
theorem law_lift {C : Checked} {f : FuncId} {fn : Func} {s : ChangeSpec} {fresh : Bool} {tb : TypeId} (own : ownKnob C.prog.godebug = none) (hl : laidOutB C.prog = true) (noInit : C.prog.inits.idxOf? f = none) (hfn : C.prog.funcs[f]? = some fn)
    (hv : s.vars = []) (hr : fn.resultTypes = #[tb]) (htb : C.prog.underlying tb = some .bool) (ht : fn.params.toList.all (fun t => C.prog.readableRec t && decide (t < C.prog.types.size)) = true)
    (os : Os) (started : os.Started) (H : Type) (enc : TypeId × Value → H)
    (witness : ∃ (w : World) (tape : Tape) (i : Input), w.os = os ∧ (w.forCall tape i).Shaped C.prog ∧ i.vars = [] ∧ Input.okWide C.prog (w.forCall tape i) .any w.heap.size f i ∧
      s.pre6 enc C.prog fn [] false (w.forCall tape i).memory i.args ∧ ({} : Assume).holds C.prog (lone (Frame.enter C.prog f i.args .normal) [] (w.forCall tape i)))
    (walk : ∀ (W : World) (base : Nat) (args : Array Value) (ds : List (DataW H)) (p : List MemPlace),
      (∀ (j : Nat) t v, fn.params[j]? = some t → args[j]? = some v → Value.okWide C.prog W .any base t v) →
      DataW.TrodAll enc C.prog W 0 (fun _ => true) true fn.params.toList args.toList ds p →
      (∀ x ∈ p, x.block < W.heap.size) →
      (DataW.weightsEach C.prog fn.params.toList ds).all (· ≤ reachBytes) = true →
      Calls C.prog f args W (RetV W (.bool true)) ∧ ((s.fn H ds).results = [.lit (.bool true)] ∧ (s.fn H ds).args = ds ∧ (s.fn H ds).vars = [])) :
    ReturnsInHanded {} C os f .any (s.pre6 enc C.prog fn [] false) (s.post enc C.prog fn false fresh false false) := by
  refine returnsInHanded_of_change_sized own started noInit hfn witness ?_
  intro W base args ds gs before hval hW _ hsz _
  have hW' := hW
  obtain ⟨p, q, hA, hV, rfl, _, _⟩ := hW
  have hV2 := hV
  rw [hv] at hV2
  obtain ⟨rfl, rfl⟩ := trodVars_none hV2
  have hsz' : (DataW.weightsEach C.prog fn.params.toList ds).all (· ≤ reachBytes) = true := by
    have e : s.plain.varTypes C.prog = [] := by
      show s.vars.filterMap _ = []
      rw [hv]; rfl
    rw [e, List.append_nil, List.append_nil] at hsz
    exact hsz
  obtain ⟨hc, hs⟩ := walk W base args ds p hval hA (fun x hx => hW'.lt x (by simp [hx])) hsz'
  refine hc.mono fun e W' ⟨he, hF⟩ => ?_
  exact ⟨_, he, law_post hl hv hr htb ht hs hW' hF⟩

/-- The same with a condition on what is read. -/
theorem law_lift_cond {C : Checked} {f : FuncId} {fn : Func} {s : ChangeSpec} {k : (H : Type) → List (DataW H) → Bool} {fresh : Bool} {tb : TypeId} (own : ownKnob C.prog.godebug = none) (hl : laidOutB C.prog = true) (noInit : C.prog.inits.idxOf? f = none) (hfn : C.prog.funcs[f]? = some fn)
    (hv : s.vars = []) (hr : fn.resultTypes = #[tb]) (htb : C.prog.underlying tb = some .bool) (ht : fn.params.toList.all (fun t => C.prog.readableRec t && decide (t < C.prog.types.size)) = true)
    (os : Os) (started : os.Started) (H : Type) (enc : TypeId × Value → H) (F : Stop.Interp)
    (witness : ∃ (w : World) (tape : Tape) (i : Input), w.os = os ∧ (w.forCall tape i).Shaped C.prog ∧ i.vars = [] ∧ Input.okWide C.prog (w.forCall tape i) .any w.heap.size f i ∧
      ({ OpenSpec.ofChange s with cond := some k } : OpenSpec).pre6 enc C.prog fn [] false (w.forCall tape i).memory i.args ∧ ({} : Assume).holds C.prog (lone (Frame.enter C.prog f i.args .normal) [] (w.forCall tape i)))
    (walk : ∀ (W : World) (base : Nat) (args : Array Value) (ds : List (DataW H)) (p : List MemPlace),
      (∀ (j : Nat) t v, fn.params[j]? = some t → args[j]? = some v → Value.okWide C.prog W .any base t v) →
      DataW.TrodAll enc C.prog W 0 (fun _ => true) true fn.params.toList args.toList ds p →
      (∀ x ∈ p, x.block < W.heap.size) →
      (DataW.weightsEach C.prog fn.params.toList ds).all (· ≤ reachBytes) = true → k H ds = true →
      Calls C.prog f args W (RetV W (.bool true)) ∧ ((s.fn H ds).results = [.lit (.bool true)] ∧ (s.fn H ds).args = ds ∧ (s.fn H ds).vars = [])) :
    ReturnsInHanded {} C os f .any (({ OpenSpec.ofChange s with cond := some k } : OpenSpec).pre6 enc C.prog fn [] false) ((({ OpenSpec.ofChange s with cond := some k } : OpenSpec).at F).post enc C.prog fn false fresh false false) := by
  refine returnsInHanded_of_cond_sized (k := k) rfl own started noInit hfn witness ?_
  intro W base args ds gs before hval hW _ hk hsz _
  have hW' : DataW.Whole enc C.prog fn.params.toList s.vars false W args.toList ds gs before := hW
  obtain ⟨p, q, hA, hV, rfl, _, _⟩ := hW
  have hV2 : DataW.TrodVars enc C.prog W (fun _ => true) s.vars gs q := hV
  rw [hv] at hV2
  obtain ⟨rfl, rfl⟩ := trodVars_none hV2
  have hsz' : (DataW.weightsEach C.prog fn.params.toList ds).all (· ≤ reachBytes) = true := by
    have e : ({ OpenSpec.ofChange s with cond := some k } : OpenSpec).bare.plain.varTypes C.prog = [] := by
      show s.vars.filterMap _ = []
      rw [hv]; rfl
    rw [e, List.append_nil, List.append_nil] at hsz
    exact hsz
  rw [List.append_nil] at hk
  obtain ⟨hc, hs⟩ := walk W base args ds p hval hA (fun x hx => hW'.lt x (by simp [hx])) hsz' hk
  refine hc.mono fun e W' ⟨he, hF⟩ => ?_
  exact ⟨_, he, law_post hl hv hr htb ht hs hW' hF⟩

/-- A slice of integers, opened. -/
theorem arg_ints {t e : TypeId} {r : Reach} {base : Nat} {k : IntKind} {v : Value} {d : DataW H} {p : List MemPlace} (ht : P.underlying t = some (.slice e)) (he : P.underlying e = some (.int k)) (hc : P.cellsOf e = 1)
    (hv : Value.okWide P W r base t v) (h : DataW.Trod enc P W 0 (fun _ => true) true t v d p) (hlt : ∀ x ∈ p, x.block < W.heap.size) :
    ∃ (a : Option Addr) (l : List Int) (c : Nat), v = .slice a l.length c ∧ Rd W.heap a l.length 1 (ivals k l) ∧ l.length ≤ c ∧ c ≤ maxLen ∧ (∀ n ∈ l, (Lit.int k n).wf = true) ∧ (a = none → l = []) ∧
      (c = 0 ∨ ∃ el sp, d = .slice el sp ∧ el.length + sp.length = c) := by
  obtain ⟨a0, len, cap, rfl⟩ := okWide_slice ht hv
  obtain ⟨fuel, hf⟩ := h
  rcases open_ints ht he hc hf with ⟨hcs, hx⟩ | ⟨a, len', cap', zs, hcs, _, hl, hm, hz, hx, hcell, hwz⟩
  · simp [Value.cells] at hcs
    obtain ⟨rfl, rfl, rfl⟩ := hcs
    exact ⟨none, [], 0, rfl, Rd.nil _ _ _, by simp, by decide, by simp, fun _ => rfl, .inl rfl⟩
  · simp [Value.cells] at hcs
    obtain ⟨rfl, rfl, rfl⟩ := hcs
    simp only [if_true] at hz
    simp only [Prod.mk.injEq] at hx
    obtain ⟨rfl, rfl⟩ := hx
    have hlen : (zs.take len).length = len := by simp; omega
    refine ⟨some a, zs.take len, cap, by rw [hlen], ⟨by simp [ivals], ?_⟩, by omega, hm, fun n hn => hwz n (List.mem_of_mem_take hn), (fun h => nomatch h), .inr ⟨_, _, rfl, by simp [lits]; omega⟩⟩
    by_cases h0 : len = 0
    · left; subst h0; rfl
    · right
      obtain ⟨b, off, spot⟩ := a
      have hspot : spot = none := by simpa [Addr.add] using World.cell?_spot (hcell 0 (by omega))
      subst hspot
      refine ⟨b, off, rfl, hlt (.cell b off) (MemPlace.mem_row.2 ⟨0, by omega, by simp⟩), fun w hw i hi => ?_⟩
      have hi' : i < len := by rw [List.length_map, hlen] at hi; exact hi
      have e : w.cell? ⟨b, off + i, none⟩ = W.cell? ⟨b, off + i, none⟩ := by simp only [World.cell?, hw]
      rw [e, ← add_plain, hcell i (by omega)]
      simp [hi', List.getElem?_eq_getElem (show i < zs.length by omega)]

/-- A slice of slices of integers, opened. -/
theorem arg_rows {t e q : TypeId} {r : Reach} {base : Nat} {v : Value} {d : DataW H} {p : List MemPlace} (ht : P.underlying t = some (.slice e)) (he : P.underlying e = some (.slice q)) (hq : P.underlying q = some (.int .i64)) (ce : P.cellsOf e = 1) (cq : P.cellsOf q = 1)
    (hv : Value.okWide P W r base t v) (h : DataW.Trod enc P W 0 (fun _ => true) true t v d p) (hlt : ∀ x ∈ p, x.block < W.heap.size) :
    ∃ (a : Option Addr) (rs : List (List Int)) (c : Nat) (A : Nat → Option Addr) (C : Nat → Nat), v = .slice a rs.length c ∧ Mat W.heap a rs A C ∧ rs.length ≤ c ∧ c ≤ maxLen ∧ (∀ l ∈ rs, ∀ n ∈ l, (Lit.int .i64 n).wf = true) ∧ (a = none → rs = []) ∧
      (∀ i, i < rs.length → A i = none → nth rs i = []) ∧ (∀ i, i < rs.length → (nth rs i).length ≤ C i) ∧ (c = 0 ∨ ∃ el sp, d = .slice el sp ∧ el.length + sp.length = c) ∧
      (∀ i, i < rs.length → nth rs i = [] ∨ ∃ el sp e' s', d = .slice el sp ∧ DataW.slice e' s' ∈ el ∧ e'.length + s'.length = C i) := by
  obtain ⟨a0, len, cap, rfl⟩ := okWide_slice ht hv
  obtain ⟨fuel, hf⟩ := h
  rcases open_int_rows ht he hq ce cq hf with ⟨hcs, hx⟩ | ⟨a, len', cap', A, L, C, Z, hcs, _, hl, hm, hx, hrows⟩
  · simp [Value.cells] at hcs
    obtain ⟨rfl, rfl, rfl⟩ := hcs
    refine ⟨none, [], 0, fun _ => none, fun _ => 0, rfl, ⟨Rd.nil _ _ _, fun i hi => by simp at hi, fun i hi => by simp at hi⟩, by simp, by decide, by simp, fun _ => rfl, fun i hi => by simp at hi, fun i hi => by simp at hi, .inl rfl, fun i hi => by simp at hi⟩
  · simp [Value.cells] at hcs
    obtain ⟨rfl, rfl, rfl⟩ := hcs
    simp only [Prod.mk.injEq] at hx
    obtain ⟨rfl, rfl⟩ := hx
    have hrl : ((List.range len).map fun r => (Z r).take (L r)).length = len := by simp
    have hrn : ∀ i, i < len → nth ((List.range len).map fun r => (Z r).take (L r)) i = (Z i).take (L i) := fun i hi => by simp [nth, List.getD, hi]
    have hLl : ∀ i, i < len → ((Z i).take (L i)).length = L i := fun i hi => by
      obtain ⟨_, h1, _, h2, _⟩ := hrows i (by omega)
      simp; omega
    refine ⟨some a, (List.range len).map fun r => (Z r).take (L r), cap, A, C, by rw [hrl], ⟨?_, ?_, ?_⟩, by omega, hm, ?_, (fun h => nomatch h), ?_, ?_, .inr ⟨_, _, rfl, by simp; omega⟩, ?_⟩
    · rw [hrl]
      refine ⟨by simp, ?_⟩
      by_cases h0 : len = 0
      · left; subst h0; rfl
      · right
        obtain ⟨b, off, spot⟩ := a
        have hspot : spot = none := by simpa [Addr.add] using World.cell?_spot (hrows 0 (by omega)).1
        subst hspot
        refine ⟨b, off, rfl, hlt (.cell b off) (List.mem_append_left _ (MemPlace.mem_row.2 ⟨0, by omega, by simp⟩)), fun w hw i hi => ?_⟩
        have hi' : i < len := by simpa using hi
        have e : w.cell? ⟨b, off + i, none⟩ = W.cell? ⟨b, off + i, none⟩ := by simp only [World.cell?, hw]
        rw [e, ← add_plain, (hrows i (by omega)).1]
        simp [hi', hrn i hi', hLl i hi']
    · intro i hi
      rw [hrl] at hi
      rw [hrn i hi]
      obtain ⟨h0, h1, h2, h3, h4, h5, h6⟩ := hrows i (by omega)
      refine ⟨by simp [ivals], ?_⟩
      by_cases hL : L i = 0
      · left; simp [hL]
      · right
        cases hA : A i with
        | none => have := h5 hA; omega
        | some a' =>
          obtain ⟨_, h7⟩ := h6 a' hA
          obtain ⟨b, off, spot⟩ := a'
          have hspot : spot = none := by simpa [Addr.add] using World.cell?_spot (h7 0 (by omega))
          subst hspot
          refine ⟨b, off, rfl, ?_, fun w hw j hj => ?_⟩
          · refine hlt (.cell b off) (List.mem_append_right _ (List.mem_flatMap.2 ⟨i, List.mem_range.2 (by omega), ?_⟩))
            rw [hA]
            show _ ∈ MemPlace.row ⟨b, off, none⟩ (Z i).length
            exact MemPlace.mem_row.2 ⟨0, by omega, by simp⟩
          · have hj' : j < L i := by rw [List.length_map, hLl i hi] at hj; exact hj
            have e : w.cell? ⟨b, off + j, none⟩ = W.cell? ⟨b, off + j, none⟩ := by simp only [World.cell?, hw]
            rw [e, ← add_plain, h7 j (by omega)]
            simp [hj', List.getElem?_eq_getElem (show j < (Z i).length by omega)]
    · intro i hi
      rw [hrl] at hi
      rw [hrn i hi, hLl i hi]
      obtain ⟨h0, h1, h2, h3, h4, h5, h6⟩ := hrows i (by omega)
      have : maxLen = 9223372036854775807 := rfl
      omega
    · intro l hl' n hn
      obtain ⟨i, hi, rfl⟩ := List.mem_map.1 hl'
      obtain ⟨h0, h1, h2, h3, h4, h5, h6⟩ := hrows i (by simp at hi; omega)
      exact h4 n (List.mem_of_mem_take hn)
    · intro i hi hA
      rw [hrl] at hi
      rw [hrn i hi]
      obtain ⟨h0, h1, h2, h3, h4, h5, h6⟩ := hrows i (by omega)
      have := h5 hA
      have hL : L i = 0 := by omega
      simp [hL]
    · intro i hi
      rw [hrl] at hi
      rw [hrn i hi, hLl i hi]
      exact (hrows i (by omega)).2.1
    · intro i hi
      rw [hrl] at hi
      rw [hrn i hi]
      obtain ⟨h0, h1, h2, h3, h4, h5, h6⟩ := hrows i (by omega)
      cases hA : A i with
      | none =>
        have := h5 hA
        have hL : L i = 0 := by omega
        left; simp [hL]
      | some a' =>
        right
        refine ⟨_, _, lits .i64 ((Z i).take (L i)), lits .i64 ((Z i).drop (L i)), rfl, List.mem_map.2 ⟨i, List.mem_range.2 hi, by rw [hA]; rfl⟩, by simp [lits]; omega⟩

theorem sized_rows {ts : List TypeId} {ds : List (DataW H)} (h : (DataW.weightsEach P ts ds).all (· ≤ reachBytes) = true) {j : Nat} {t e q : TypeId} {el sp e' s' : List (DataW H)} (ht : ts[j]? = some t) (hd : ds[j]? = some (.slice el sp))
    (hu : P.underlying t = some (.slice e)) (he : P.underlying e = some (.slice q)) (hm : DataW.slice e' s' ∈ el) : (e'.length + s'.length) * P.bytesOf q ≤ reachBytes := by
  refine of_decide_eq_true (List.all_eq_true.1 h _ (DataW.weights_mem_each ht hd _ ?_))
  have key : ∀ l : List (DataW H), DataW.slice e' s' ∈ l → (e'.length + s'.length) * P.bytesOf q ∈ DataW.weightsAll P e l := by
    intro l
    induction l with
    | nil => intro h; cases h
    | cons x l ih =>
      intro h
      simp only [DataW.weightsAll, List.mem_append]
      rcases List.mem_cons.1 h with rfl | h
      · left; simp [DataW.weights, he]
      · right; exact ih h
  simp only [DataW.weights, hu, List.mem_cons, List.mem_append]
  exact .inr (.inl (key el hm))
end
end Go
