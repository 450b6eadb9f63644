import Derived.Test.YtgfbkebbnfcgkaaQRt1
section
namespace Go
open Go.ChangeShapes Go.WideShapes Go.ChangeAt Go.RowKit Go.Deep

section
variable {H : Type} {enc : TypeId × Value → H} {P : Program} {W : World}
/-- A slice of records, opened: each is f q; of each what lies behind it. -/
theorem arg_recsP {α : Type} [Inhabited α] {f : α → List Value} {k : Nat} {wf : α → DataW H → List MemPlace → Prop} (hk : 0 < k) (hlen : ∀ q, (f q).length = k) {t e : TypeId} {r : Reach} {base : Nat} {v : Value} {d : DataW H} {p : List MemPlace} (ht : P.underlying t = some (.slice e)) (ce : P.cellsOf e = k)
    (open1 : ∀ fuel cs x, DataW.trod enc P W 0 (fun _ => true) true fuel e cs = some x → ∃ q, cs = f q ∧ wf q x.1 x.2)
    (hv : Value.okWide P W r base t v) (h : DataW.Trod enc P W 0 (fun _ => true) true t v d p) (hlt : ∀ x ∈ p, x.block < W.heap.size) :
    ∃ (a : Option Addr) (l : List α) (c : Nat), v = .slice a l.length c ∧ Recs W.heap a k f l ∧ l.length ≤ c ∧ c ≤ maxLen ∧ (∀ x ∈ l, ∃ dd pl, wf x dd pl ∧ (∀ y ∈ pl, y ∈ p) ∧ ∃ el sp, d = .slice el sp ∧ dd ∈ el) ∧ (a = none → l = []) ∧
      (c = 0 ∨ ∃ el sp, d = .slice el sp ∧ el.length + sp.length = c) := by
  obtain ⟨a0, len, cap, rfl⟩ := okWide_slice ht hv
  obtain ⟨fuel, hf⟩ := h
  rcases open_slice ht hf with ⟨hcs, hx⟩ | ⟨a, len', cap', m, n, D, Pl, hcs, _, hl, hm, hmm, hx, hel⟩
  · simp [Value.cells] at hcs
    obtain ⟨rfl, rfl, rfl⟩ := hcs
    exact ⟨none, [], 0, rfl, Rd.nil _ _ _, by simp, by decide, by simp, fun _ => rfl, .inl rfl⟩
  · simp [Value.cells] at hcs
    obtain ⟨rfl, rfl, rfl⟩ := hcs
    simp only [if_true] at hmm
    subst hmm
    simp only [Prod.mk.injEq] at hx
    obtain ⟨rfl, rfl⟩ := hx
    have each : ∀ i, i < m → ∃ q : α, (∀ j, j < k → W.cell? (a.add (i * k + j)) = (f q)[j]?) ∧ wf q (D i) (Pl i) := by
      intro i hi
      obtain ⟨cs', h1, h2⟩ := hel i hi
      rw [ce] at h1
      obtain ⟨_, hcl, hcell⟩ := World.cells?_some h1
      obtain ⟨q, rfl, hw⟩ := open1 _ _ _ h2
      refine ⟨q, fun j hj => ?_, hw⟩
      have := hcell j (by omega)
      rw [add_add] at this
      rw [this]
    obtain ⟨q, hq⟩ := choose_lt each
    have hrl : ((List.range len).map q).length = len := by simp
    refine ⟨some a, (List.range len).map q, m, by rw [hrl], ?_, by omega, hm, ?_, (fun h => nomatch h), .inr ⟨_, _, rfl, by simp; omega⟩⟩
    · refine ⟨by rw [flat_len _ k hlen], ?_⟩
      by_cases h0 : len = 0
      · left; subst h0; rfl
      · right
        have hz : ∀ j, j < k → W.cell? (a.add (0 * k + j)) = (f (q 0))[j]? := fun j hj => (hq 0 (by omega)).1 j hj
        have hf0 : ∃ u, (f (q 0))[0]? = some u := ⟨_, List.getElem?_eq_getElem (by rw [hlen]; exact hk)⟩
        obtain ⟨u, hu⟩ := hf0
        obtain ⟨b, off, spot⟩ := a
        have hspot : spot = none := by
          have := hz 0 hk
          rw [hu] at this
          simpa [Addr.add] using World.cell?_spot this
        subst hspot
        refine ⟨b, off, rfl, hlt (.cell b off) (List.mem_append_left _ (MemPlace.mem_row.2 ⟨0, ?_, by simp⟩)), fun w hw i hi => ?_⟩
        · rw [ce]; exact Nat.mul_pos (by omega) hk
        rw [flat_len _ k hlen, hrl] at hi
        have e : w.cell? ⟨b, off + i, none⟩ = W.cell? ⟨b, off + i, none⟩ := by simp only [World.cell?, hw]
        have hd : i = i / k * k + i % k := by rw [Nat.mul_comm]; exact (Nat.div_add_mod i k).symm
        have hi3 : i / k < len := Nat.div_lt_of_lt_mul (by rw [Nat.mul_comm]; exact hi)
        have hmk : i % k < k := Nat.mod_lt _ hk
        have z0 := (hq (i / k) (by omega)).1 (i % k) hmk
        simp only [add_plain] at z0
        have hn : nth ((List.range len).map q) (i / k) = q (i / k) := by simp [nth, List.getD, hi3]
        rw [e]
        conv => lhs; rw [hd]
        conv => rhs; rw [hd]
        rw [flat_get _ k hlen _ _ _ (by rw [hrl]; exact hi3) hmk, hn]
        exact z0
    · intro x hx
      obtain ⟨i, hi, rfl⟩ := List.mem_map.1 hx
      have hi' := List.mem_range.1 hi
      refine ⟨D i, Pl i, (hq i (by omega)).2, fun y hy => List.mem_append_right _ (List.mem_flatMap.2 ⟨i, List.mem_range.2 (by omega), hy⟩), _, _, rfl, List.mem_map.2 ⟨i, hi, rfl⟩⟩

/-- A slice of integers as a part of a record. -/
theorem open_ints1 {t e : TypeId} {k : IntKind} {fuel : Nat} {cs : List Value} {x : DataW H × List MemPlace} (ht : P.underlying t = some (.slice e)) (he : P.underlying e = some (.int k)) (hc : P.cellsOf e = 1) (hf : DataW.trod enc P W 0 (fun _ => true) true fuel t cs = some x) :
    ∃ (a : Option Addr) (l : List Int) (c : Nat), cs = [.slice a l.length c] ∧ ((∀ y ∈ x.2, y.block < W.heap.size) → Rd W.heap a l.length 1 (ivals k l)) ∧ l.length ≤ c ∧ c ≤ maxLen ∧ (∀ n ∈ l, (Lit.int k n).wf = true) ∧ (a = none → l = []) ∧
      (c = 0 ∨ ∃ el sp, x.1 = .slice el sp ∧ el.length + sp.length = c) := by
  rcases open_ints ht he hc hf with ⟨hcs, hx⟩ | ⟨a, len, cap, zs, hcs, _, hl, hm, hz, hx, hcell, hwz⟩
  · exact ⟨none, [], 0, hcs, fun _ => Rd.nil _ _ _, by simp, by decide, by simp, fun _ => rfl, .inl rfl⟩
  · simp only [if_true] at hz
    subst hx
    have hlen : (zs.take len).length = len := by simp; omega
    refine ⟨some a, zs.take len, cap, by rw [hlen]; exact hcs, fun hlt => ⟨by simp [ivals], ?_⟩, by omega, hm, fun n hn => hwz n (List.mem_of_mem_take hn), (fun h => nomatch h), .inr ⟨_, _, rfl, by simp [lits]; omega⟩⟩
    by_cases h0 : len = 0
    · left; subst h0; rfl
    · right
      obtain ⟨b, off, spot⟩ := a
      have hspot : spot = none := by simpa [Addr.add] using World.cell?_spot (hcell 0 (by omega))
      subst hspot
      refine ⟨b, off, rfl, hlt (.cell b off) (MemPlace.mem_row.2 ⟨0, by omega, by simp⟩), fun w hw i hi => ?_⟩
      have hi' : i < len := by rw [List.length_map, hlen] at hi; exact hi
      have e : w.cell? ⟨b, off + i, none⟩ = W.cell? ⟨b, off + i, none⟩ := by simp only [World.cell?, hw]
      rw [e, ← add_plain, hcell i (by omega)]
      simp [hi', List.getElem?_eq_getElem (show i < zs.length by omega)]

/-- A way: its net, how far, by whom; where that list lies. -/
structure BestR where
  (a n m : Int)
  (h : List Int)
  (A : Option Addr)
  (C : Nat)
deriving Inhabited
abbrev BestR.cells (x : BestR) : List Value := [.int .u32 x.a, .int .i64 x.n, .int .i64 x.m, .slice x.A x.h.length x.C]
theorem BestR.cells_len (x : BestR) : (BestR.cells x).length = 4 := rfl
def BestR.wf (x : BestR) : Prop := Nt.wf ⟨x.a, x.n⟩ ∧ (Lit.int .i64 x.m).wf = true ∧ x.h.length ≤ x.C ∧ x.C ≤ maxLen ∧ (∀ z ∈ x.h, (Lit.int .i64 z).wf = true) ∧ (x.A = none → x.h = [])
/-- What lies behind a way that is handed in. -/
def bestOpen (W : World) (q : BestR) (d : DataW H) (pl : List MemPlace) : Prop := BestR.wf q ∧ ((∀ y ∈ pl, y.block < W.heap.size) → Ints W.heap q.A q.h) ∧ (q.C = 0 ∨ ∃ u0 u1 el sp, d = .agg [u0, u1, .slice el sp] ∧ el.length + sp.length = q.C)
theorem open_best {t : TypeId} {f0 f1 f2 g0 g1 : Field} {ti : TypeId} (ht : P.underlying t = some (.struct #[f0, f1, f2])) (ct : P.cellsOf t = 4) (o0 : f0.offset = 0) (o1 : f1.offset = 2) (o2 : f2.offset = 3)
    (kn : P.underlying f0.type = some (.struct #[g0, g1])) (cn : P.cellsOf f0.type = 2) (p0 : g0.offset = 0) (p1 : g1.offset = 1) (j0 : P.underlying g0.type = some (.int .u32)) (j1 : P.underlying g1.type = some (.int .i64)) (b0 : P.cellsOf g0.type = 1) (b1 : P.cellsOf g1.type = 1)
    (k1 : P.underlying f1.type = some (.int .i64)) (c1 : P.cellsOf f1.type = 1) (k2 : P.underlying f2.type = some (.slice ti)) (c2 : P.cellsOf f2.type = 1) (ki : P.underlying ti = some (.int .i64)) (ci : P.cellsOf ti = 1) :
    ∀ fuel cs x, DataW.trod enc P W 0 (fun _ => true) true fuel t cs = some x → ∃ q : BestR, cs = BestR.cells q ∧ bestOpen W q x.1 x.2 := by
  intro fuel cs x h
  obtain ⟨y0, y1, y2, n', hx, hl, h0, h1, h2⟩ := trod_struct3 ht h
  rw [ct] at hl
  match cs, hl with
  | [v0, v1, v2, v3], _ =>
    simp [o0, o1, o2, cn, c1, c2] at h0 h1 h2
    obtain ⟨q, hq, hqw⟩ := open_net kn cn p0 p1 j0 j1 b0 b1 _ _ _ h0
    obtain ⟨x1, q1, _, w1⟩ := DataW.trod_int k1 h1
    obtain ⟨A, l, c, hcs, hI, hlc, hcm, hlw, hnil, hsz⟩ := open_ints1 k2 ki ci h2
    simp at hq q1 hcs
    obtain ⟨rfl, rfl⟩ := hq
    subst q1
    subst hcs
    refine ⟨⟨q.a, q.n, x1, l, A, c⟩, rfl, ⟨hqw, w1, hlc, hcm, hlw, hnil⟩, fun hlt => hI (fun y hy => hlt y ?_), ?_⟩
    · rw [hx]
      simp [hy]
    · rcases hsz with h | ⟨el, sp, h3, h4⟩
      · exact .inl h
      · exact .inr ⟨y0.1, y1.1, el, sp, by rw [hx, h3], h4⟩
end
end Go
end
