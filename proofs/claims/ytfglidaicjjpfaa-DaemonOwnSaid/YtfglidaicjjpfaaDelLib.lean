import Derived.Test.YtfglidaicjjpfaaInsLib
namespace Go
open Go.RowKit

/-- 'clear(s[i:])', s the call's own, i below its length: what is left is as it was. -/
theorem wpList_clr {P : Program} {w : World} {ops : Array Oper} {rest : List Oper} {o : Oper} {a : Act} {Q : Exit → Act → World → Prop}
    (hg : o.guard = none) (x : Operand) (t : TypeId) (hop : o.op = Op.call { callee := Callee.builtin Builtin.clear, args := #[x], argTypes := #[t] })
    {e : TypeId} {z : Value} {size : Nat} (ht : P.underlying t = some (.slice e)) (hz : ∀ w, (zeroValue e).run P w = .ok z w) (hsz : z.cells.size = size) (h1 : ∀ u ∈ z.cells.toList, u.oneCell' = true)
    {E : TypeId} {g i m c n cap : Nat} (hx : a.eval x = .slice (some ⟨g, i * size, none⟩) m c) {xs : List Value} (hown : Own w.heap E size (some ⟨g, 0, none⟩) n cap xs (some g)) (hi : i + m = n) (hm : 0 < m)
    (hK : ∀ w', Own w'.heap E size (some ⟨g, 0, none⟩) i cap (xs.take (i * size)) (some g) → Fr (fun k => k = g) w w' → wpList P ops Q rest (a.put o.dst (.tuple #[])) w') :
    wpList P ops Q (o :: rest) a w := by
  obtain ⟨g', cur, hga, hgo, hB, hn, hc, hl, htk⟩ := hown.blk (by omega)
  cases hga
  have hzl : (Builtin.zeroCells z.cells m).toList.length = m * size := by rw [← hsz]; simp [Builtin.zeroCells]
  have hz1 : ∀ u ∈ (Builtin.zeroCells z.cells m).toList, u.oneCell' = true := fun u hu => by
    simp only [Builtin.zeroCells, Array.toList_map, Array.toList_range, List.mem_map, List.mem_range] at hu
    obtain ⟨j, hj, rfl⟩ := hu
    have hs0 : 0 < z.cells.size := by
      rcases Nat.eq_zero_or_pos z.cells.size with h | h
      · rw [h] at hj; simp at hj
      · exact h
    have hjs : j % z.cells.size < z.cells.size := Nat.mod_lt _ hs0
    rw [getElem!_pos z.cells _ hjs]
    exact h1 _ (by simp)
  have hlen : i * size + (Builtin.zeroCells z.cells m).toList.length ≤ cur.length := by
    rw [hzl, hl, ← Nat.add_mul, hi]
    exact Nat.mul_le_mul_right _ hn
  have hst := run_storeCells_at P g (i * size) E (Builtin.zeroCells z.cells m).toList 0 cur.toArray w hB (by simpa using hlen) hz1
  simp only [Nat.add_zero] at hst
  refine wpList_plain hg fun K hK' => ?_
  obtain ⟨m', rfl⟩ : ∃ m', m = m' + 1 := ⟨m - 1, by omega⟩
  have hrun : (Builtin.clear_ #[t] o.type #[.slice (some ⟨g, i * size, none⟩) (m' + 1) c]).run P w = .ok (.tuple #[]) (w.setRow g (splice cur (i * size) (Builtin.zeroCells z.cells (m' + 1)).toList).toArray) := by
    simp [Builtin.clear_, run_underlying ht, hz, hst, splice]
  unfold Oper.wp
  simp [execOp, hop, resolve, invoke, builtin, hx, hrun, Result.andThen]
  refine hK' _ _ (hK _ ?_ ?_)
  · have hB' : Blk (w.setRow g (splice cur (i * size) (Builtin.zeroCells z.cells (m' + 1)).toList).toArray).heap g E (splice cur (i * size) (Builtin.zeroCells z.cells (m' + 1)).toList) := setRow_heap w g _ _ E _ hB
    refine Own.of_blk hB' (by omega) hc ?_ ?_
    · unfold splice
      simp only [List.length_append, List.length_take, List.length_drop]
      omega
    · unfold splice
      have : i * size ≤ cur.length := by omega
      rw [List.take_append_of_le_length (by rw [List.length_take]; omega), List.take_take, Nat.min_self, ← htk, List.take_take, Nat.min_eq_left (Nat.mul_le_mul_right _ (by omega))]
  · exact ⟨rfl, rfl, rfl, by simp [World.setRow], fun k hk hs => setRow_other w g k _ hs⟩
end Go
