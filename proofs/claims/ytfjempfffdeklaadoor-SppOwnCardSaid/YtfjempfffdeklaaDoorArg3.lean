import Derived.Test.YtfjempfffdeklaaDoorArgBest
import Derived.Test.YtfjempfffdeklaaDoorOMat
namespace Go
open Go.ChangeShapes Go.WideShapes Go.ChangeAt Go.RowKit Go.Deep
section
variable {H : Type} {enc : TypeId × Value → H} {P : Program} {W : World}
/-- Rows of numbers, opened where they lie. -/
theorem rows_open {t e q : TypeId} {fuel : Nat} {cs : List Value} {d : DataW H} {p : List MemPlace} (ht : P.underlying t = some (.slice e)) (he : P.underlying e = some (.slice q)) (hq : P.underlying q = some (.int .i64)) (ce : P.cellsOf e = 1) (cq : P.cellsOf q = 1)
    (hf : DataW.trod enc P W 0 (fun _ => true) true fuel t cs = some (d, p)) :
    ∃ (a : Option Addr) (rs : List (List Int)) (c : Nat) (A : Nat → Option Addr) (C : Nat → Nat), cs = [.slice a rs.length c] ∧ ((∀ x ∈ p, x.block < W.heap.size) → Mat W.heap a rs A C) ∧ rs.length ≤ c ∧ c ≤ maxLen ∧ (∀ l ∈ rs, ∀ n ∈ l, (Lit.int .i64 n).wf = true) ∧ (a = none → rs = []) ∧
      (∀ i, i < rs.length → A i = none → nth rs i = []) ∧ (∀ i, i < rs.length → (nth rs i).length ≤ C i) ∧ (c = 0 ∨ ∃ el sp, d = .slice el sp ∧ el.length + sp.length = c) ∧
      (∀ i, i < rs.length → nth rs i = [] ∨ ∃ el sp e' s', d = .slice el sp ∧ DataW.slice e' s' ∈ el ∧ e'.length + s'.length = C i) := by
  rcases open_int_rows ht he hq ce cq hf with ⟨hcs, hx⟩ | ⟨a, len, cap, A, L, C, Z, hcs, _, hl, hm, hx, hrows⟩
  · subst hcs
    refine ⟨none, [], 0, fun _ => none, fun _ => 0, rfl, fun _ => ⟨Rd.nil _ _ _, fun i hi => by simp at hi, fun i hi => by simp at hi⟩, by simp, by decide, by simp, fun _ => rfl, fun i hi => by simp at hi, fun i hi => by simp at hi, .inl rfl, fun i hi => by simp at hi⟩
  · subst hcs
    simp only [Prod.mk.injEq] at hx
    obtain ⟨rfl, rfl⟩ := hx
    have hrl : ((List.range len).map fun r => (Z r).take (L r)).length = len := by simp
    have hrn : ∀ i, i < len → nth ((List.range len).map fun r => (Z r).take (L r)) i = (Z i).take (L i) := fun i hi => by simp [nth, List.getD, hi]
    have hLl : ∀ i, i < len → ((Z i).take (L i)).length = L i := fun i hi => by
      obtain ⟨_, h1, _, h2, _⟩ := hrows i (by omega)
      simp; omega
    refine ⟨some a, (List.range len).map fun r => (Z r).take (L r), cap, A, C, by rw [hrl], fun hlt => ⟨?_, ?_, ?_⟩, by omega, hm, ?_, (fun h => nomatch h), ?_, ?_, .inr ⟨_, _, rfl, by simp; omega⟩, ?_⟩
    · rw [hrl]
      refine ⟨by simp, ?_⟩
      by_cases h0 : len = 0
      · left; subst h0; rfl
      · right
        obtain ⟨b, off, spot⟩ := a
        have hspot : spot = none := by simpa [Addr.add] using World.cell?_spot (hrows 0 (by omega)).1
        subst hspot
        refine ⟨b, off, rfl, hlt (.cell b off) (List.mem_append_left _ (MemPlace.mem_row.2 ⟨0, by omega, by simp⟩)), fun w hw i hi => ?_⟩
        have hi' : i < len := by simpa using hi
        have e : w.cell? ⟨b, off + i, none⟩ = W.cell? ⟨b, off + i, none⟩ := by simp only [World.cell?, hw]
        rw [e, ← add_plain, (hrows i (by omega)).1]
        simp [hi', hrn i hi', hLl i hi']
    · intro i hi
      rw [hrl] at hi
      rw [hrn i hi]
      obtain ⟨h0, h1, h2, h3, h4, h5, h6⟩ := hrows i (by omega)
      refine ⟨by simp [ivals], ?_⟩
      by_cases hL : L i = 0
      · left; simp [hL]
      · right
        cases hA : A i with
        | none => have := h5 hA; omega
        | some a' =>
          obtain ⟨_, h7⟩ := h6 a' hA
          obtain ⟨b, off, spot⟩ := a'
          have hspot : spot = none := by simpa [Addr.add] using World.cell?_spot (h7 0 (by omega))
          subst hspot
          refine ⟨b, off, rfl, ?_, fun w hw j hj => ?_⟩
          · refine hlt (.cell b off) (List.mem_append_right _ (List.mem_flatMap.2 ⟨i, List.mem_range.2 (by omega), ?_⟩))
            rw [hA]
            show _ ∈ MemPlace.row ⟨b, off, none⟩ (Z i).length
            exact MemPlace.mem_row.2 ⟨0, by omega, by simp⟩
          · have hj' : j < L i := by rw [List.length_map, hLl i hi] at hj; exact hj
            have e : w.cell? ⟨b, off + j, none⟩ = W.cell? ⟨b, off + j, none⟩ := by simp only [World.cell?, hw]
            rw [e, ← add_plain, h7 j (by omega)]
            simp [hj', List.getElem?_eq_getElem (show j < (Z i).length by omega)]
    · intro i hi
      rw [hrl] at hi
      rw [hrn i hi, hLl i hi]
      obtain ⟨h0, h1, h2, h3, h4, h5, h6⟩ := hrows i (by omega)
      have : maxLen = 9223372036854775807 := rfl
      omega
    · intro l hl' n hn
      obtain ⟨i, hi, rfl⟩ := List.mem_map.1 hl'
      obtain ⟨h0, h1, h2, h3, h4, h5, h6⟩ := hrows i (by simp at hi; omega)
      exact h4 n (List.mem_of_mem_take hn)
    · intro i hi hA
      rw [hrl] at hi
      rw [hrn i hi]
      obtain ⟨h0, h1, h2, h3, h4, h5, h6⟩ := hrows i (by omega)
      have := h5 hA
      have hL : L i = 0 := by omega
      simp [hL]
    · intro i hi
      rw [hrl] at hi
      rw [hrn i hi, hLl i hi]
      exact (hrows i (by omega)).2.1
    · intro i hi
      rw [hrl] at hi
      rw [hrn i hi]
      obtain ⟨h0, h1, h2, h3, h4, h5, h6⟩ := hrows i (by omega)
      cases hA : A i with
      | none =>
        have := h5 hA
        have hL : L i = 0 := by omega
        left; simp [hL]
      | some a' =>
        right
        refine ⟨_, _, lits .i64 ((Z i).take (L i)), lits .i64 ((Z i).drop (L i)), rfl, List.mem_map.2 ⟨i, List.mem_range.2 hi, by rw [hA]; rfl⟩, by simp [lits]; omega⟩


/-- Rows within a list. -/
structure Rw where
  a : Option Addr
  rs : List (List Int)
  c : Nat
  A : Nat → Option Addr
  C : Nat → Nat
instance : Inhabited Rw := ⟨⟨none, [], 0, fun _ => none, fun _ => 0⟩⟩
abbrev Rw.cells (x : Rw) : List Value := [.slice x.a x.rs.length x.c]
theorem Rw.cells_len (x : Rw) : x.cells.length = 1 := rfl
def rwOpen {H : Type} (W : World) (x : Rw) (d : DataW H) (p : List MemPlace) : Prop :=
  ((∀ y ∈ p, y.block < W.heap.size) → Mat W.heap x.a x.rs x.A x.C) ∧ x.rs.length ≤ x.c ∧ (∀ l ∈ x.rs, ∀ n ∈ l, (Lit.int .i64 n).wf = true) ∧ (x.a = none → x.rs = []) ∧ (∀ i, i < x.rs.length → x.A i = none → nth x.rs i = []) ∧ (∀ i, i < x.rs.length → (nth x.rs i).length ≤ x.C i) ∧ (x.c = 0 ∨ ∃ el sp, d = .slice el sp ∧ el.length + sp.length = x.c) ∧
    (∀ i, i < x.rs.length → nth x.rs i = [] ∨ ∃ el sp e' s', d = .slice el sp ∧ DataW.slice e' s' ∈ el ∧ e'.length + s'.length = x.C i)
theorem open_rw {t e q : TypeId} (ht : P.underlying t = some (.slice e)) (he : P.underlying e = some (.slice q)) (hq : P.underlying q = some (.int .i64)) (ce : P.cellsOf e = 1) (cq : P.cellsOf q = 1) :
    ∀ fuel cs x, DataW.trod enc P W 0 (fun _ => true) true fuel t cs = some x → ∃ q : Rw, cs = q.cells ∧ rwOpen W q x.1 x.2 := by
  intro fuel cs x h
  obtain ⟨a, rs, c, A, C, h0, h1, h2, h3, h4, h5, h6, h7, h8, h9⟩ := rows_open ht he hq ce cq (d := x.1) (p := x.2) h
  exact ⟨⟨a, rs, c, A, C⟩, h0, h1, h2, h4, h5, h6, h7, h8, h9⟩
/-- How many bytes a row of rows within a list may take. -/
theorem sized_rows1 {ts : List TypeId} {ds : List (DataW H)} (h : (DataW.weightsEach P ts ds).all (· ≤ reachBytes) = true) {j : Nat} {t e q r : TypeId} {el sp e' s' e2 s2 : List (DataW H)} (ht : ts[j]? = some t) (hd : ds[j]? = some (.slice el sp))
    (hu : P.underlying t = some (.slice e)) (he : P.underlying e = some (.slice q)) (hq : P.underlying q = some (.slice r)) (hm : DataW.slice e' s' ∈ el) (hm2 : DataW.slice e2 s2 ∈ e') : (e2.length + s2.length) * P.bytesOf r ≤ reachBytes := by
  refine of_decide_eq_true (List.all_eq_true.1 h _ (DataW.weights_mem_each ht hd _ ?_))
  have key2 : ∀ l : List (DataW H), DataW.slice e2 s2 ∈ l → (e2.length + s2.length) * P.bytesOf r ∈ DataW.weightsAll P q l := by
    intro l
    induction l with
    | nil => intro h; cases h
    | cons x l ih =>
      intro h
      simp only [DataW.weightsAll, List.mem_append]
      rcases List.mem_cons.1 h with rfl | h
      · left; simp [DataW.weights, hq]
      · right; exact ih h
  have key : ∀ l : List (DataW H), DataW.slice e' s' ∈ l → (e2.length + s2.length) * P.bytesOf r ∈ DataW.weightsAll P e l := by
    intro l
    induction l with
    | nil => intro h; cases h
    | cons x l ih =>
      intro h
      simp only [DataW.weightsAll, List.mem_append]
      rcases List.mem_cons.1 h with rfl | h
      · left
        simp only [DataW.weights, he, List.mem_cons, List.mem_append]
        exact .inr (.inl (key2 e' hm2))
      · right; exact ih h
  simp only [DataW.weights, hu, List.mem_cons, List.mem_append]
  exact .inr (.inl (key el hm))
end
end Go
