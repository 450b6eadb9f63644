import Derived.Test.YtfjempfffdeklaaBase
import Derived.Deep.DeepAppendWide
namespace Go
open Go.RowKit
/-- A row that has no room is laid anew: the bound on bytes as wide as growslice's own. -/
theorem run_append_arg_grows_wide {P : Program} (w : World) (t ty e : TypeId) (i : TypeInfo) (z : Value) (size bytes : Nat) (ht : P.underlying t = some (.slice e)) (hi : P.info? e = some i) (hz : i.zero = some z) (hsize : i.size = size) (hby : i.bytes = bytes) (hzs : z.cells.size = size) (_hsz : 0 < size)
    (b : Addr) (n cap : Nat) (xs : List Value) (hx : xs.length = n * size) (cx : ∀ j u, xs[j]? = some u → w.cell? (b.add j) = some u) (a : Addr) (m c : Nat) (ys : List Value) (hy : ys.length = m * size) (cy : ∀ j u, ys[j]? = some u → w.cell? (a.add j) = some u)
    (hg : cap < n + m) (hm : n + m ≤ maxLen) (hb : ((n + m) + (n + m) / 4 + 192) * bytes ≤ 281474976710656) :
    ∃ v' w', (Builtin.append_ #[t, t] ty #[.slice (some b) n cap, .slice (some a) m c]).run P w = .ok v' w' ∧ w'.ownsRow w.heap.size e size v' (n + m) (xs ++ ys) ∧ w.grownBy w' none := by
  subst hsize hby
  have h63 : n + m ≤ 9223372036854775807 := hm
  have hL : (xs ++ ys).length = (n + m) * i.size := by rw [List.length_append, hx, hy, Nat.add_mul]
  have hr := run_append_grow (P := P) w t ty e i z ht hi hz b n cap xs hx cx a m c ys hy cy hg (by omega) (growslice_fits_wide hg hb)
  have hk := grownCap_ge w (n + m) cap e
  refine ⟨_, _, hr, ⟨hL, .inr ⟨w.heap.size, _, _, rfl, Nat.le_refl _, heap_alloc_new w.drew _, hk, grownCap_le_maxLen w (n + m) cap e hm, ?_, ?_⟩⟩, rfl, rfl, rfl, by simp, fun j hj _ => heap_alloc_old w.drew _ hj⟩
  · have h3 : n * i.size + m * i.size + (grownCap w (n + m) cap e - (n + m)) * i.size = grownCap w (n + m) cap e * i.size := by rw [← Nat.add_mul, ← Nat.add_mul]; congr 1; omega
    simpa only [Array.size_append, List.size_toArray, size_zeroCells, hzs, hx, hy] using h3
  · rw [Array.toList_append, Array.toList_append, ← hL]
    exact List.take_left
/-- 'out = append(out, ..)', out the call's own: it is the call's own again: the same block, or the newest. -/
theorem wpList_app_wide {P : Program} {w : World} {ops : Array Oper} {rest : List Oper} {o : Oper} {a : Act} {Q : Exit → Act → World → Prop}
    (hg : o.guard = none) (s x : Operand) (t : TypeId) (hop : o.op = Op.call { callee := Callee.builtin Builtin.append, args := #[s, x], argTypes := #[t, t] })
    {e : TypeId} {z : Value} {size bytes : Nat} (h1 : P.underlying t = some (.slice e)) (hinfo : (P.info? e).map (fun i => (i.zero, i.size, i.bytes)) = some (some z, size, bytes)) (h6 : z.cells.size = size) (h7 : 0 < size)
    {ao : Option Addr} {n cap : Nat} (hs : a.eval s = .slice ao n cap) {ax : Option Addr} {m c : Nat} (hx : a.eval x = .slice ax m c)
    {xs : List Value} {ob : Option Nat} (hown : Own w.heap e size ao n cap xs ob) {news : List Value} (hrd : Rd w.heap ax m size news) (h1c : ∀ u ∈ news, u.oneCell' = true)
    (hb : ((n + m) + (n + m) / 4 + 192) * bytes ≤ 281474976710656) (hm : n + m ≤ 9223372036854775807)
    (hK : ∀ a' c' w' ob', Own w'.heap e size a' (n + m) c' (xs ++ news) ob' → Fr (fun k => ob = some k) w w' → (ob' = ob ∨ ∃ g, ob' = some g ∧ w.heap.size ≤ g) → wpList P ops Q rest (a.put o.dst (.slice a' (n + m) c')) w') :
    wpList P ops Q (o :: rest) a w := by
  obtain ⟨i, h2, h3, h4, h5⟩ := info_parts hinfo
  subst h4
  subst h5
  refine wpList_plain hg fun K hK' => ?_
  have fin : ∀ v' w', (Builtin.append_ #[t, t] o.type #[.slice ao n cap, .slice ax m c]).run P w = .ok v' w' →
      (∃ a' c' ob', v' = .slice a' (n + m) c' ∧ Own w'.heap e i.size a' (n + m) c' (xs ++ news) ob' ∧ Fr (fun k => ob = some k) w w' ∧ (ob' = ob ∨ ∃ g, ob' = some g ∧ w.heap.size ≤ g)) → o.wp P a w K Q := by
    rintro v' w' hrun ⟨a', c', ob', rfl, r1, r2, r3⟩
    unfold Oper.wp
    simp [execOp, hop, resolve, invoke, builtin, hs, hx, hrun, Result.andThen]
    exact hK' _ _ (hK a' c' w' ob' r1 r2 r3)
  -- nothing to append
  by_cases hz : m = 0
  · subst hz
    have hn0 : news = [] := List.eq_nil_of_length_eq_zero (by simpa using hrd.len)
    subst hn0
    have hfc : ∀ w, (Builtin.firstCells i.size 0 (.slice ax 0 c)).run P w = .ok #[] w := by
      intro w
      cases ax <;> simp [Builtin.firstCells, loadCells, loadCellsFrom, Sem.run_pure]
    have hle : n ≤ cap := by
      rcases hown.is with ⟨_, h1, h2, _⟩ | ⟨_, _, _, _, _, h, _⟩ <;> omega
    refine fin (.slice ao n cap) w ?_ ⟨ao, cap, ob, by simp, by simpa using hown, Fr.refl _ _, .inl rfl⟩
    cases ao with
    | none => simp [Builtin.append_, run_underlying h1, sizeOf, typeInfo, h2, Builtin.lenOf, hle, hfc]
    | some ad => simp [Builtin.append_, run_underlying h1, sizeOf, typeInfo, h2, Builtin.lenOf, hle, hfc, storeCells]
  · obtain ⟨b, off, rfl, hbl, hc⟩ := hrd.pos (Nat.mul_pos (by omega) h7)
    have hnews : ∀ j u, news[j]? = some u → w.cell? ((⟨b, off, none⟩ : Addr).add j) = some u := fun j u hj => by
      rw [Addr.add_lit, hc w rfl j (by rw [← hrd.len]; exact (List.getElem?_eq_some_iff.1 hj).1)]; exact hj
    by_cases hroom : n + m ≤ cap
    · rcases hown.is with ⟨_, _, h0, _⟩ | ⟨g, cur, rfl, h8, h9, h10, h11, h12, h13⟩
      · omega
      · have hbase : w.ownsRow g e i.size (.slice (some ⟨g, 0, none⟩) n cap) n xs := hown.owns g (fun g' hg' => by rw [h8] at hg'; cases hg'; exact Nat.le_refl _)
        obtain ⟨w', hrun, r1, r2⟩ := run_append_fits (P := P) w g t o.type e i i.size h1 h2 rfl g n cap xs hbase ⟨b, off, none⟩ m c news hrd.len hnews h1c hroom
        obtain ⟨a', cap', ob', hv, hown', hob⟩ := Own.of_owns r1
        simp only [Value.slice.injEq] at hv
        obtain ⟨rfl, _, rfl⟩ := hv
        have hob' : ob' = some g := by
          rcases hown'.is with ⟨h, _⟩ | ⟨g', _, h, h', _⟩
          · cases h
          · cases h; exact h'
        exact fin _ _ hrun ⟨_, _, ob', rfl, hown', (Fr.refl _ _).grown r2 (fun k hk _ => by cases hk; exact h8), .inl (by rw [hob', h8])⟩
    · obtain ⟨v', w', hrun, r1, r2⟩ : ∃ v' w', (Builtin.append_ #[t, t] o.type #[.slice ao n cap, .slice (some ⟨b, off, none⟩) m c]).run P w = .ok v' w' ∧ w'.ownsRow w.heap.size e i.size v' (n + m) (xs ++ news) ∧ w.grownBy w' none := by
        rcases hown.is with ⟨rfl, rfl, rfl, rfl⟩ | ⟨g, cur, rfl, h8, h9, h10, h11, h12, h13⟩
        · obtain rfl : xs = [] := List.eq_nil_of_length_eq_zero (by simpa using hown.len)
          obtain ⟨v', w', hrun, r1, r2, _⟩ := run_append_own_wide (P := P) w w.heap.size t o.type e i z i.size i.bytes h1 h2 h3 rfl rfl h6 h7 (.slice none 0 0) 0 [] (World.ownsRow_nil w _ e i.size) ⟨b, off, none⟩ m c news hrd.len hnews h1c (by unfold maxLen; omega) hb (Nat.le_refl _)
          exact ⟨v', w', hrun, r1, r2⟩
        · refine run_append_arg_grows_wide (P := P) w t o.type e i z i.size i.bytes h1 h2 h3 rfl rfl h6 h7 ⟨g, 0, none⟩ n cap xs hown.len (fun j u hj => ?_) ⟨b, off, none⟩ m c news hrd.len hnews (by omega) (by unfold maxLen; omega) hb
          have hj' : j < n * i.size := by rw [← hown.len]; exact (List.getElem?_eq_some_iff.1 hj).1
          have hn : 0 < n := by
            rcases Nat.eq_zero_or_pos n with h | h
            · subst h; simp at hj'
            · exact h
          obtain ⟨g', hg1, hg2, _, hg4, _⟩ := hown.pos hn
          cases hg1
          rw [Addr.add_lit, Nat.zero_add, hg4 j hj']; exact hj
      obtain ⟨a', cap', ob', rfl, hown', hob⟩ := Own.of_owns r1
      refine fin _ _ hrun ⟨_, _, ob', rfl, hown', (Fr.refl _ _).grown r2 (fun k hk => by cases hk), .inr ?_⟩
      rcases hown'.is with ⟨_, h, _⟩ | ⟨g', _, _, h', _⟩
      · omega
      · exact ⟨g', h', hob g' h'⟩
end Go
