import Derived.Test.YtgfbkebbnfcgkaaRow
import Derived.Deep.Slices
import Derived.Deep.Strs
namespace Go
open Go.ChangeShapes Go.WideShapes Go.ChangeAt Go.RowKit Go.Deep

/-! Slices of records: each element is f x, k cells. -/
theorem flat_get {α : Type} [Inhabited α] (f : α → List Value) (k : Nat) (hk : ∀ x, (f x).length = k) : ∀ (l : List α) (i j : Nat), i < l.length → j < k → (l.flatMap f)[i * k + j]? = (f (nth l i))[j]? := by
  intro l
  induction l with
  | nil => intro i j hi; simp at hi
  | cons x l ih =>
    intro i j hi hj
    rw [List.flatMap_cons]
    cases i with
    | zero => rw [Nat.zero_mul, Nat.zero_add, List.getElem?_append_left (by rw [hk]; exact hj)]; rfl
    | succ i =>
      rw [List.getElem?_append_right (by rw [hk, Nat.succ_mul]; omega), hk, nth_cons_succ]
      have e : (i + 1) * k + j - k = i * k + j := by rw [Nat.succ_mul]; omega
      rw [e]
      exact ih i j (by simpa using hi) hj
theorem flat_len {α : Type} (f : α → List Value) (k : Nat) (hk : ∀ x, (f x).length = k) (l : List α) : (l.flatMap f).length = l.length * k := by
  induction l with
  | nil => simp
  | cons x l ih => rw [List.flatMap_cons, List.length_append, hk, ih, List.length_cons, Nat.succ_mul]; omega
abbrev Recs {α : Type} (H : Array Obj) (a : Option Addr) (k : Nat) (f : α → List Value) (l : List α) : Prop := Rd H a l.length k (l.flatMap f)
theorem Recs.pos {α : Type} [Inhabited α] {H : Array Obj} {a : Option Addr} {k : Nat} {f : α → List Value} {l : List α} (h : Recs H a k f l) (hk : ∀ x, (f x).length = k) (hk0 : 0 < k) (hn : 0 < l.length) :
    ∃ b off, a = some ⟨b, off, none⟩ ∧ b < H.size ∧ ∀ (w : World), w.heap = H → ∀ i j, i < l.length → j < k → w.cell? ⟨b, off + (i * k + j), none⟩ = (f (nth l i))[j]? := by
  obtain ⟨b, off, h1, h2, h3⟩ := Rd.pos h (Nat.mul_pos hn hk0)
  refine ⟨b, off, h1, h2, fun w hw i j hi hj => ?_⟩
  have : i * k + j < l.length * k := by
    have : (i + 1) * k ≤ l.length * k := Nat.mul_le_mul_right _ hi
    rw [Nat.succ_mul] at this
    omega
  rw [h3 w hw _ this, flat_get f k hk l i j hi hj]

/-- A link: two nodes, a cost. -/
structure Lk where
  a : Int
  b : Int
  c : Int
deriving Inhabited, DecidableEq
abbrev Lk.cells (x : Lk) : List Value := [.int .i64 x.a, .int .i64 x.b, .int .i64 x.c]
theorem Lk.cells_len (x : Lk) : x.cells.length = 3 := rfl
abbrev Links (H : Array Obj) (a : Option Addr) (l : List Lk) : Prop := Recs H a 3 Lk.cells l

section
variable {H : Type} {enc : TypeId × Value → H} {P : Program} {W : World}
/-- A slice of links, opened. -/
theorem arg_links {t e : TypeId} {f0 f1 f2 : Field} {r : Reach} {base : Nat} {v : Value} {d : DataW H} {p : List MemPlace} (ht : P.underlying t = some (.slice e)) (he : P.underlying e = some (.struct #[f0, f1, f2])) (ce : P.cellsOf e = 3)
    (o0 : f0.offset = 0) (o1 : f1.offset = 1) (o2 : f2.offset = 2) (k0 : P.underlying f0.type = some (.int .i64)) (k1 : P.underlying f1.type = some (.int .i64)) (k2 : P.underlying f2.type = some (.int .i64))
    (c0 : P.cellsOf f0.type = 1) (c1 : P.cellsOf f1.type = 1) (c2 : P.cellsOf f2.type = 1)
    (hv : Value.okWide P W r base t v) (h : DataW.Trod enc P W 0 (fun _ => true) true t v d p) (hlt : ∀ x ∈ p, x.block < W.heap.size) :
    ∃ (a : Option Addr) (l : List Lk) (c : Nat), v = .slice a l.length c ∧ Links W.heap a l ∧ l.length ≤ c ∧ c ≤ maxLen ∧ (∀ x ∈ l, (Lit.int .i64 x.a).wf = true ∧ (Lit.int .i64 x.b).wf = true ∧ (Lit.int .i64 x.c).wf = true) ∧ (a = none → l = []) ∧
      (c = 0 ∨ ∃ el sp, d = .slice el sp ∧ el.length + sp.length = c) := by
  obtain ⟨a0, len, cap, rfl⟩ := okWide_slice ht hv
  obtain ⟨fuel, hf⟩ := h
  rcases open_slice ht hf with ⟨hcs, hx⟩ | ⟨a, len', cap', m, n, D, Pl, hcs, _, hl, hm, hmm, hx, hel⟩
  · simp [Value.cells] at hcs
    obtain ⟨rfl, rfl, rfl⟩ := hcs
    exact ⟨none, [], 0, rfl, Rd.nil _ _ _, by simp, by decide, (by simp), fun _ => rfl, .inl rfl⟩
  · simp [Value.cells] at hcs
    obtain ⟨rfl, rfl, rfl⟩ := hcs
    simp only [if_true] at hmm
    subst hmm
    simp only [Prod.mk.injEq] at hx
    obtain ⟨rfl, rfl⟩ := hx
    have each : ∀ i, i < m → ∃ q : Lk, W.cell? (a.add (i * 3)) = some (.int .i64 q.a) ∧ W.cell? (a.add (i * 3 + 1)) = some (.int .i64 q.b) ∧ W.cell? (a.add (i * 3 + 2)) = some (.int .i64 q.c) ∧ (Lit.int .i64 q.a).wf = true ∧ (Lit.int .i64 q.b).wf = true ∧ (Lit.int .i64 q.c).wf = true := by
      intro i hi
      obtain ⟨cs', h1, h2⟩ := hel i hi
      rw [ce] at h1
      obtain ⟨_, hlen, hcell⟩ := World.cells?_some h1
      obtain ⟨y0, y1, y2, n', _, _, g0, g1, g2⟩ := trod_struct3 he h2
      match cs', hlen with
      | [v0, v1, v2], _ =>
        simp [o0, o1, o2, c0, c1, c2] at g0 g1 g2
        have e0 := hcell 0 (by omega)
        have e1 := hcell 1 (by omega)
        have e2 := hcell 2 (by omega)
        rw [add_add] at e0 e1 e2
        obtain ⟨x0, q0, _, w0⟩ := DataW.trod_int k0 g0
        obtain ⟨x1, q1, _, w1⟩ := DataW.trod_int k1 g1
        obtain ⟨x2, q2, _, w2⟩ := DataW.trod_int k2 g2
        simp at q0 q1 q2
        subst q0; subst q1; subst q2
        exact ⟨⟨x0, x1, x2⟩, by simpa using e0, by simpa using e1, by simpa using e2, w0, w1, w2⟩
    obtain ⟨q, hq⟩ := choose_lt each
    have hrl : ((List.range len).map q).length = len := by simp
    refine ⟨some a, (List.range len).map q, m, by rw [hrl], ?_, by omega, hm, ?_, (fun h => nomatch h), .inr ⟨_, _, rfl, by simp; omega⟩⟩
    · refine ⟨by rw [flat_len _ 3 Lk.cells_len], ?_⟩
      by_cases h0 : len = 0
      · left; subst h0; rfl
      · right
        obtain ⟨b, off, spot⟩ := a
        have hspot : spot = none := by simpa [Addr.add] using World.cell?_spot (hq 0 (by omega)).1
        subst hspot
        refine ⟨b, off, rfl, hlt (.cell b off) (List.mem_append_left _ (MemPlace.mem_row.2 ⟨0, by rw [ce]; omega, by simp⟩)), fun w hw i hi => ?_⟩
        rw [flat_len _ 3 Lk.cells_len, hrl] at hi
        have e : w.cell? ⟨b, off + i, none⟩ = W.cell? ⟨b, off + i, none⟩ := by simp only [World.cell?, hw]
        have hd : i = i / 3 * 3 + i % 3 := by omega
        have hi3 : i / 3 < len := by omega
        obtain ⟨z0, z1, z2, _⟩ := hq (i / 3) (by omega)
        simp only [add_plain] at z0 z1 z2
        have hn : nth ((List.range len).map q) (i / 3) = q (i / 3) := by simp [nth, List.getD, hi3]
        rw [e]
        conv => lhs; rw [hd]
        conv => rhs; rw [hd]
        rw [flat_get _ 3 Lk.cells_len _ _ _ (by rw [hrl]; exact hi3) (by omega), hn]
        have hm3 : i % 3 = 0 ∨ i % 3 = 1 ∨ i % 3 = 2 := by omega
        rcases hm3 with h3 | h3 | h3 <;> rw [h3]
        · simpa using z0
        · simpa using z1
        · simpa using z2
    · intro x hx
      obtain ⟨i, hi, rfl⟩ := List.mem_map.1 hx
      have := hq i (by have := List.mem_range.1 hi; omega)
      exact ⟨this.2.2.2.1, this.2.2.2.2.1, this.2.2.2.2.2⟩
end
end Go
