import Derived.Test.YtakkljdeencfbaaBase
import Derived.Deep.RegionLaw
namespace Go
open Go.RowKit
/-- As wpList_app, one step of a region that draws (for go_region_law): 'out = append(out, ..)', out the call's own: it is the call's own again: the same block, or the newest. -/
theorem step_app {P : Program} {w : World} {ops : Array Oper} {o : Oper} {a : Act} {K : Act → World → Prop} {Q : Exit → Act → World → Prop} {EE : Prop}
    (hg : o.guard = none) (s x : Operand) (t : TypeId) (hop : o.op = Op.call { callee := Callee.builtin Builtin.append, args := #[s, x], argTypes := #[t, t] })
    {e : TypeId} {z : Value} {size bytes : Nat} (h1 : P.underlying t = some (.slice e)) (hinfo : (P.info? e).map (fun i => (i.zero, i.size, i.bytes)) = some (some z, size, bytes)) (h6 : z.cells.size = size) (h7 : 0 < size)
    {ao : Option Addr} {n cap : Nat} (hs : a.eval s = .slice ao n cap) {ax : Option Addr} {m c : Nat} (hx : a.eval x = .slice ax m c)
    {xs : List Value} {ob : Option Nat} (hown : Own w.heap e size ao n cap xs ob) {news : List Value} (hrd : Rd w.heap ax m size news) (h1c : ∀ u ∈ news, u.oneCell' = true)
    (hb : (n + m) * bytes ≤ 140737488355328) (hm : n + m ≤ 9223372036854775807)
    (hK : ∀ a' c' w' ob', Own w'.heap e size a' (n + m) c' (xs ++ news) ob' → Fr (fun k => ob = some k) w w' → (ob' = ob ∨ ∃ g, ob' = some g ∧ w.heap.size ≤ g) → K (a.put o.dst (.slice a' (n + m) c')) w') :
    if Region.wanted o (yielded ops a.tmps) = true then Oper.wp P o a w K Q else EE := by
  have hwn : Region.wanted o (yielded ops a.tmps) = true := by simp [Region.wanted, hg]
  rw [if_pos hwn]
  obtain ⟨i, h2, h3, h4, h5⟩ := info_parts hinfo
  subst h4
  subst h5
  have fin : ∀ v' w', (Builtin.append_ #[t, t] o.type #[.slice ao n cap, .slice ax m c]).run P w = .ok v' w' →
      (∃ a' c' ob', v' = .slice a' (n + m) c' ∧ Own w'.heap e i.size a' (n + m) c' (xs ++ news) ob' ∧ Fr (fun k => ob = some k) w w' ∧ (ob' = ob ∨ ∃ g, ob' = some g ∧ w.heap.size ≤ g)) → o.wp P a w K Q := by
    rintro v' w' hrun ⟨a', c', ob', rfl, r1, r2, r3⟩
    unfold Oper.wp
    simp [execOp, hop, resolve, invoke, builtin, hs, hx, hrun, Result.andThen]
    exact hK a' c' w' ob' r1 r2 r3
  -- nothing to append
  by_cases hz : m = 0
  · subst hz
    have hn0 : news = [] := List.eq_nil_of_length_eq_zero (by simpa using hrd.len)
    subst hn0
    have hfc : ∀ w, (Builtin.firstCells i.size 0 (.slice ax 0 c)).run P w = .ok #[] w := by
      intro w
      cases ax <;> simp [Builtin.firstCells, loadCells, loadCellsFrom, Sem.run_pure]
    have hle : n ≤ cap := by
      rcases hown.is with ⟨_, h1, h2, _⟩ | ⟨_, _, _, _, _, h, _⟩ <;> omega
    refine fin (.slice ao n cap) w ?_ ⟨ao, cap, ob, by simp, by simpa using hown, Fr.refl _ _, .inl rfl⟩
    cases ao with
    | none => simp [Builtin.append_, run_underlying h1, sizeOf, typeInfo, h2, Builtin.lenOf, hle, hfc]
    | some ad => simp [Builtin.append_, run_underlying h1, sizeOf, typeInfo, h2, Builtin.lenOf, hle, hfc, storeCells]
  · obtain ⟨b, off, rfl, hbl, hc⟩ := hrd.pos (Nat.mul_pos (by omega) h7)
    have hnews : ∀ j u, news[j]? = some u → w.cell? ((⟨b, off, none⟩ : Addr).add j) = some u := fun j u hj => by
      rw [Addr.add_lit, hc w rfl j (by rw [← hrd.len]; exact (List.getElem?_eq_some_iff.1 hj).1)]; exact hj
    by_cases hroom : n + m ≤ cap
    · rcases hown.is with ⟨_, _, h0, _⟩ | ⟨g, cur, rfl, h8, h9, h10, h11, h12, h13⟩
      · omega
      · have hbase : w.ownsRow g e i.size (.slice (some ⟨g, 0, none⟩) n cap) n xs := hown.owns g (fun g' hg' => by rw [h8] at hg'; cases hg'; exact Nat.le_refl _)
        obtain ⟨w', hrun, r1, r2⟩ := run_append_fits (P := P) w g t o.type e i i.size h1 h2 rfl g n cap xs hbase ⟨b, off, none⟩ m c news hrd.len hnews h1c hroom
        obtain ⟨a', cap', ob', hv, hown', hob⟩ := Own.of_owns r1
        simp only [Value.slice.injEq] at hv
        obtain ⟨rfl, _, rfl⟩ := hv
        have hob' : ob' = some g := by
          rcases hown'.is with ⟨h, _⟩ | ⟨g', _, h, h', _⟩
          · cases h
          · cases h; exact h'
        exact fin _ _ hrun ⟨_, _, ob', rfl, hown', (Fr.refl _ _).grown r2 (fun k hk _ => by cases hk; exact h8), .inl (by rw [hob', h8])⟩
    · obtain ⟨v', w', hrun, r1, r2⟩ : ∃ v' w', (Builtin.append_ #[t, t] o.type #[.slice ao n cap, .slice (some ⟨b, off, none⟩) m c]).run P w = .ok v' w' ∧ w'.ownsRow w.heap.size e i.size v' (n + m) (xs ++ news) ∧ w.grownBy w' none := by
        rcases hown.is with ⟨rfl, rfl, rfl, rfl⟩ | ⟨g, cur, rfl, h8, h9, h10, h11, h12, h13⟩
        · obtain rfl : xs = [] := List.eq_nil_of_length_eq_zero (by simpa using hown.len)
          obtain ⟨v', w', hrun, r1, r2, _⟩ := run_append_own (P := P) w w.heap.size t o.type e i z i.size i.bytes h1 h2 h3 rfl rfl h6 h7 (.slice none 0 0) 0 [] (World.ownsRow_nil w _ e i.size) ⟨b, off, none⟩ m c news hrd.len hnews h1c (by unfold maxLen; omega) hb (Nat.le_refl _)
          exact ⟨v', w', hrun, r1, r2⟩
        · refine run_append_arg_grows (P := P) w t o.type e i z i.size i.bytes h1 h2 h3 rfl rfl h6 h7 ⟨g, 0, none⟩ n cap xs hown.len (fun j u hj => ?_) ⟨b, off, none⟩ m c news hrd.len hnews (by omega) (by unfold maxLen; omega) hb
          have hj' : j < n * i.size := by rw [← hown.len]; exact (List.getElem?_eq_some_iff.1 hj).1
          have hn : 0 < n := by
            rcases Nat.eq_zero_or_pos n with h | h
            · subst h; simp at hj'
            · exact h
          obtain ⟨g', hg1, hg2, _, hg4, _⟩ := hown.pos hn
          cases hg1
          rw [Addr.add_lit, Nat.zero_add, hg4 j hj']; exact hj
      obtain ⟨a', cap', ob', rfl, hown', hob⟩ := Own.of_owns r1
      refine fin _ _ hrun ⟨_, _, ob', rfl, hown', (Fr.refl _ _).grown r2 (fun k hk => by cases hk), .inr ?_⟩
      rcases hown'.is with ⟨_, h, _⟩ | ⟨g', _, _, h', _⟩
      · omega
      · exact ⟨g', h', hob g' h'⟩

end Go
