import Derived.Test.YtbmeeglehbaggaaDoorEnRec
import Derived.Test.YtbmeeglehbaggaaDoorNets
import Derived.Lib.SmallJoins
namespace Go
open Go.ChangeShapes Go.WideShapes Go.ChangeAt Go.RowKit Go.Deep
section
variable {H : Type} {enc : TypeId × Value → H} {P : Program} {W : World}
/-- A slice of records, opened where it stands. -/
theorem open_recs1 {α : Type} [Inhabited α] {f : α → List Value} {k : Nat} {wf : α → Prop} (hk : 0 < k) (hlen : ∀ q, (f q).length = k) {t e : TypeId} {fuel : Nat} {cs : List Value} {x : DataW H × List MemPlace} (ht : P.underlying t = some (.slice e)) (ce : P.cellsOf e = k)
    (open1 : ∀ fuel cs x, DataW.trod enc P W 0 (fun _ => true) true fuel e cs = some x → ∃ q, cs = f q ∧ wf q)
    (hf : DataW.trod enc P W 0 (fun _ => true) true fuel t cs = some x) :
    ∃ (a : Option Addr) (l : List α) (c : Nat), cs = [.slice a l.length c] ∧ ((∀ y ∈ x.2, y.block < W.heap.size) → Recs W.heap a k f l) ∧ l.length ≤ c ∧ c ≤ maxLen ∧ (∀ x ∈ l, wf x) ∧ (a = none → l = []) ∧
      (c = 0 ∨ ∃ el sp, x.1 = .slice el sp ∧ el.length + sp.length = c) := by
  rcases open_slice ht hf with ⟨hcs, hx⟩ | ⟨a, len', cap', m, n, D, Pl, hcs, _, hl, hm, hmm, hx, hel⟩
  · exact ⟨none, [], 0, hcs, fun _ => Rd.nil _ _ _, by simp, by decide, (by simp), fun _ => rfl, .inl rfl⟩
  · simp only [if_true] at hmm
    subst hmm
    subst hx
    have each : ∀ i, i < m → ∃ q : α, (∀ j, j < k → W.cell? (a.add (i * k + j)) = (f q)[j]?) ∧ wf q := by
      intro i hi
      obtain ⟨cs', h1, h2⟩ := hel i hi
      rw [ce] at h1
      obtain ⟨_, hcl, hcell⟩ := World.cells?_some h1
      obtain ⟨q, rfl, hw⟩ := open1 _ _ _ h2
      refine ⟨q, fun j hj => ?_, hw⟩
      have := hcell j (by omega)
      rw [add_add] at this
      rw [this]
    obtain ⟨q, hq⟩ := choose_lt each
    have hrl : ((List.range len').map q).length = len' := by simp
    refine ⟨some a, (List.range len').map q, m, by rw [hrl]; exact hcs, fun hlt => ?_, by omega, hm, ?_, (fun h => nomatch h), .inr ⟨_, _, rfl, by simp; omega⟩⟩
    · refine ⟨by rw [flat_len _ k hlen], ?_⟩
      by_cases h0 : len' = 0
      · left; subst h0; rfl
      · right
        have hz : ∀ j, j < k → W.cell? (a.add (0 * k + j)) = (f (q 0))[j]? := fun j hj => (hq 0 (by omega)).1 j hj
        have hf0 : ∃ u, (f (q 0))[0]? = some u := ⟨_, List.getElem?_eq_getElem (by rw [hlen]; exact hk)⟩
        obtain ⟨u, hu⟩ := hf0
        obtain ⟨b, off, spot⟩ := a
        have hspot : spot = none := by
          have := hz 0 hk
          rw [hu] at this
          simpa [Addr.add] using World.cell?_spot this
        subst hspot
        refine ⟨b, off, rfl, hlt (.cell b off) (List.mem_append_left _ (MemPlace.mem_row.2 ⟨0, ?_, by simp⟩)), fun w hw i hi => ?_⟩
        · rw [ce]; exact Nat.mul_pos (by omega) hk
        rw [flat_len _ k hlen, hrl] at hi
        have e : w.cell? ⟨b, off + i, none⟩ = W.cell? ⟨b, off + i, none⟩ := by simp only [World.cell?, hw]
        have hd : i = i / k * k + i % k := by rw [Nat.mul_comm]; exact (Nat.div_add_mod i k).symm
        have hi3 : i / k < len' := Nat.div_lt_of_lt_mul (by rw [Nat.mul_comm]; exact hi)
        have hmk : i % k < k := Nat.mod_lt _ hk
        have z0 := (hq (i / k) (by omega)).1 (i % k) hmk
        simp only [add_plain] at z0
        have hn : nth ((List.range len').map q) (i / k) = q (i / k) := by simp [nth, List.getD, hi3]
        rw [e]
        conv => lhs; rw [hd]
        conv => rhs; rw [hd]
        rw [flat_get _ k hlen _ _ _ (by rw [hrl]; exact hi3) hmk, hn]
        exact z0
    · intro x hx
      obtain ⟨i, hi, rfl⟩ := List.mem_map.1 hx
      exact (hq i (by have := List.mem_range.1 hi; omega)).2

open Go.Proofs.YtbmeeglehbaggaaDoor
def EnW (x : En) : Prop := Nt.wf ⟨x.a, x.n⟩ ∧ (Lit.int .i64 x.t).wf = true ∧ (0 ≤ x.p ∧ x.p < 4294967296) ∧ (Lit.int .i64 x.m).wf = true
theorem open_ent {t : TypeId} {f0 f1 f2 f3 g0 g1 : Field} (ht : P.underlying t = some (.struct #[f0, f1, f2, f3])) (ct : P.cellsOf t = 5) (o0 : f0.offset = 0) (o1 : f1.offset = 2) (o2 : f2.offset = 3) (o3 : f3.offset = 4)
    (kn : P.underlying f0.type = some (.struct #[g0, g1])) (cn : P.cellsOf f0.type = 2) (p0 : g0.offset = 0) (p1 : g1.offset = 1) (j0 : P.underlying g0.type = some (.int .u32)) (j1 : P.underlying g1.type = some (.int .i64)) (b0 : P.cellsOf g0.type = 1) (b1 : P.cellsOf g1.type = 1)
    (k1 : P.underlying f1.type = some (.int .i64)) (c1 : P.cellsOf f1.type = 1) (k2 : P.underlying f2.type = some (.int .u32)) (c2 : P.cellsOf f2.type = 1) (k3 : P.underlying f3.type = some (.int .i64)) (c3 : P.cellsOf f3.type = 1) :
    ∀ fuel cs x, DataW.trod enc P W 0 (fun _ => true) true fuel t cs = some x → ∃ q : En, cs = En.cells q ∧ EnW q := by
  intro fuel cs x h
  obtain ⟨y0, y1, y2, y3, n', hx, hl, h0, h1, h2, h3⟩ := Go.Joins.trod_struct4 ht h
  rw [ct] at hl
  match cs, hl with
  | [v0, v1, v2, v3, v4], _ =>
    simp [o0, o1, o2, o3, cn, c1, c2, c3] at h0 h1 h2 h3
    obtain ⟨q, hq, hqw⟩ := open_net kn cn p0 p1 j0 j1 b0 b1 _ _ _ h0
    obtain ⟨x1, q1, _, w1⟩ := DataW.trod_int k1 h1
    obtain ⟨x2, q2, _, w2⟩ := DataW.trod_int k2 h2
    obtain ⟨x3, q3, _, w3⟩ := DataW.trod_int k3 h3
    simp at hq q1 q2 q3
    obtain ⟨rfl, rfl⟩ := hq
    subst q1
    subst q2
    subst q3
    exact ⟨⟨q.a, q.n, x1, x2, x3⟩, rfl, hqw, w1, u32_wf w2, w3⟩
/-- A message, opened. -/
theorem arg_msg {t te : TypeId} {f0 f1 : Field} {r : Reach} {base : Nat} {v : Value} {d : DataW H} {p : List MemPlace} (ht : P.underlying t = some (.struct #[f0, f1])) (ct : P.cellsOf t = 2) (o0 : f0.offset = 0) (o1 : f1.offset = 1)
    (k0 : P.underlying f0.type = some .bool) (c0 : P.cellsOf f0.type = 1) (k1 : P.underlying f1.type = some (.slice te)) (c1 : P.cellsOf f1.type = 1) (ce : P.cellsOf te = 5)
    (open1 : ∀ fuel cs x, DataW.trod enc P W 0 (fun _ => true) true fuel te cs = some x → ∃ q : En, cs = En.cells q ∧ EnW q)
    (hv : Value.okWide P W r base t v) (h : DataW.Trod enc P W 0 (fun _ => true) true t v d p) (hlt : ∀ x ∈ p, x.block < W.heap.size) :
    ∃ (ask : Bool) (a : Option Addr) (l : List En) (c : Nat), v = .agg #[.bool ask, .slice a l.length c] ∧ Recs W.heap a 5 En.cells l ∧ l.length ≤ c ∧ c ≤ maxLen ∧ (∀ x ∈ l, EnW x) ∧
      (c = 0 ∨ ∃ u0 el sp, d = .agg [u0, .slice el sp] ∧ el.length + sp.length = c) := by
  obtain ⟨cs, rfl, hsz⟩ := okWide_struct ht hv
  obtain ⟨fuel, hf⟩ := h
  obtain ⟨y0, y1, n', hx, hl, h0, h1⟩ := trod_struct2 ht hf
  rw [ct] at hl
  simp only [Value.cells] at hl h0 h1
  obtain ⟨cl⟩ := cs
  match cl, hl with
  | [v0, v1], _ =>
    simp [o0, o1, c0, c1] at h0 h1
    obtain ⟨b, q0, _⟩ := DataW.trod_bool k0 h0
    obtain ⟨a, l, c, hcs, hI, hlc, hcm, hlw, hnil, hsy⟩ := open_recs1 (by decide) En.cells_len k1 ce open1 h1
    simp at q0 hcs
    subst q0
    subst hcs
    simp only [Prod.mk.injEq] at hx
    obtain ⟨rfl, rfl⟩ := hx
    refine ⟨b, a, l, c, rfl, hI (fun y hy => hlt y (by simp [hy])), hlc, hcm, hlw, ?_⟩
    rcases hsy with h | ⟨el, sp, h3, h4⟩
    · exact .inl h
    · exact .inr ⟨y0.1, el, sp, by rw [h3], h4⟩
/-- How many bytes a slice within a record that came in may take. -/
theorem part_small {ts : List TypeId} {ds : List (DataW H)} {j k : Nat} {t q r : TypeId} {fs : Array Field} {e' s' parts : List (DataW H)} (hsz : (DataW.weightsEach P ts ds).all (· ≤ reachBytes) = true) (ht : ts[j]? = some t) (hd : ds[j]? = some (.agg parts))
    (he : P.underlying t = some (.struct fs)) (hp : parts[k]? = some (.slice e' s')) (hf : (fs.toList.map (·.type))[k]? = some q) (hq : P.underlying q = some (.slice r)) : (e'.length + s'.length) * P.bytesOf r ≤ reachBytes := by
  refine of_decide_eq_true (List.all_eq_true.1 hsz _ (DataW.weights_mem_each ht hd _ ?_))
  simp only [DataW.weights, he]
  exact DataW.weights_mem_each hf hp _ (by simp [DataW.weights, hq])
end
end Go
