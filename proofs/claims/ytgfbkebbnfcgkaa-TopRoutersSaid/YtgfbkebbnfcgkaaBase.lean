import Derived.Test.YtgfbkebbnfcgkaaLib
import Derived.WalkSpells
import Derived.WalkLawsBesides
import Derived.Lib.Hide
import Derived.Laws.CopyOwn
import Derived.Deep.OwnRows
import Derived.Deep.LoopGhost
namespace Go
open Go.RowKit

/-- Element k of a list; behind its end the type's default. -/
def nth {α : Type} [Inhabited α] (l : List α) (k : Nat) : α := l.getD k default
theorem nth_eq {α : Type} [Inhabited α] (l : List α) (k : Nat) (h : k < l.length) : nth l k = l[k] := by simp [nth, h]
theorem nth_get? {α : Type} [Inhabited α] (l : List α) (k : Nat) (h : k < l.length) : l[k]? = some (nth l k) := by rw [nth_eq l k h]; simp [h]
theorem nth_mem {α : Type} [Inhabited α] (l : List α) (k : Nat) (h : k < l.length) : nth l k ∈ l := by rw [nth_eq l k h]; exact List.getElem_mem h
theorem nth_cons_zero {α : Type} [Inhabited α] (x : α) (l : List α) : nth (x :: l) 0 = x := rfl
theorem nth_cons_succ {α : Type} [Inhabited α] (x : α) (l : List α) (k : Nat) : nth (x :: l) (k + 1) = nth l k := by simp [nth]
theorem take_succ_nth {α : Type} [Inhabited α] (l : List α) (k : Nat) (h : k < l.length) : l.take (k + 1) = l.take k ++ [nth l k] := by
  rw [List.take_add_one, nth_get? l k h]; rfl
theorem drop_nth {α : Type} [Inhabited α] (l : List α) (k : Nat) (h : k < l.length) : l.drop k = nth l k :: l.drop (k + 1) := by
  rw [nth_eq l k h]; exact List.drop_eq_getElem_cons h
theorem nth_map {α β : Type} [Inhabited α] [Inhabited β] (f : α → β) (l : List α) (k : Nat) (h : k < l.length) : nth (l.map f) k = f (nth l k) := by
  rw [nth_eq _ _ (by simpa using h), nth_eq l k h]; simp
theorem nth_append_left {α : Type} [Inhabited α] (l m : List α) (k : Nat) (h : k < l.length) : nth (l ++ m) k = nth l k := by
  rw [nth_eq _ _ (by simp; omega), nth_eq l k h]; exact List.getElem_append_left h
theorem nth_append_right {α : Type} [Inhabited α] (l m : List α) (k : Nat) (h : l.length ≤ k) : nth (l ++ m) k = nth m (k - l.length) := by
  simp [nth, List.getD, List.getElem?_append_right h]
theorem nth_take {α : Type} [Inhabited α] (l : List α) (k n : Nat) (h : k < n) : nth (l.take n) k = nth l k := by simp [nth, List.getD, h]
theorem nth_drop {α : Type} [Inhabited α] (l : List α) (k n : Nat) : nth (l.drop n) k = nth l (n + k) := by simp [nth, List.getD]
theorem nth_replicate {α : Type} [Inhabited α] (x : α) (k n : Nat) (h : k < n) : nth (List.replicate n x) k = x := by simp [nth, List.getD, h]
theorem nth_set {α : Type} [Inhabited α] (l : List α) (i k : Nat) (x : α) (h : i < l.length) : nth (l.set i x) k = if k = i then x else nth l k := by
  simp only [nth, List.getD, List.getElem?_set]
  by_cases hk : i = k
  · subst hk; simp [h]
  · simp [hk, Ne.symm hk]
theorem ext_nth {α : Type} [Inhabited α] {l m : List α} (hl : l.length = m.length) (h : ∀ k, k < l.length → nth l k = nth m k) : l = m := by
  apply List.ext_getElem hl
  intro k h1 h2
  have := h k h1
  rwa [nth_eq l k h1, nth_eq m k h2] at this
theorem nth_default {α : Type} [Inhabited α] (l : List α) (k : Nat) (h : l.length ≤ k) : nth l k = default := by simp [nth, List.getD, List.getElem?_eq_none h]

/-- A slice that can be read: n elements of sz cells each, flat. -/
structure Rd (H : Array Obj) (a : Option Addr) (n sz : Nat) (xs : List Value) : Prop where
  len : xs.length = n * sz
  at' : xs = [] ∨ ∃ b off, a = some ⟨b, off, none⟩ ∧ b < H.size ∧ ∀ (w : World), w.heap = H → ∀ i, i < xs.length → w.cell? ⟨b, off + i, none⟩ = xs[i]?

theorem Rd.pos {H : Array Obj} {a : Option Addr} {n sz : Nat} {xs : List Value} (h : Rd H a n sz xs) (hn : 0 < n * sz) :
    ∃ b off, a = some ⟨b, off, none⟩ ∧ b < H.size ∧ ∀ (w : World), w.heap = H → ∀ i, i < n * sz → w.cell? ⟨b, off + i, none⟩ = xs[i]? := by
  rcases h.at' with h1 | ⟨b, off, h1, h2, h3⟩
  · have := h.len; rw [h1] at this; simp at this; omega
  · exact ⟨b, off, h1, h2, fun w hw i hi => h3 w hw i (by rw [h.len]; exact hi)⟩

theorem Rd.fr {S : Nat → Prop} {w w' : World} {a : Option Addr} {n sz : Nat} {xs : List Value} (h : Rd w.heap a n sz xs) (f : Fr S w w') (hs : ∀ b off, a = some ⟨b, off, none⟩ → ¬ S b) : Rd w'.heap a n sz xs := by
  refine ⟨h.len, ?_⟩
  rcases h.at' with h1 | ⟨b, off, h1, h2, h3⟩
  · exact .inl h1
  · refine .inr ⟨b, off, h1, Nat.lt_of_lt_of_le h2 f.size, fun u hu i hi => ?_⟩
    have e : u.cell? ⟨b, off + i, none⟩ = w'.cell? ⟨b, off + i, none⟩ := by simp only [World.cell?, hu]
    rw [e, f.cell h2 (hs b off h1)]
    exact h3 w rfl i hi

theorem Rd.nil (H : Array Obj) (a : Option Addr) (sz : Nat) : Rd H a 0 sz [] := ⟨by simp, .inl rfl⟩

/-- A slice of the call's own, from the head of a block of its own ('ob'; of nil: none). -/
structure Ownd (H : Array Obj) (E : TypeId) (sz : Nat) (a : Option Addr) (n cap : Nat) (xs : List Value) (ob : Option Nat) : Prop where
  len : xs.length = n * sz
  is : (a = none ∧ n = 0 ∧ cap = 0 ∧ ob = none) ∨ ∃ g cur, a = some ⟨g, 0, none⟩ ∧ ob = some g ∧ H[g]? = some (.cells cur E (0, 0)) ∧ n ≤ cap ∧ cap ≤ maxLen ∧ cur.size = cap * sz ∧ cur.toList.take (n * sz) = xs

namespace Ownd
variable {H : Array Obj} {E : TypeId} {sz : Nat} {a : Option Addr} {n cap : Nat} {xs : List Value} {ob : Option Nat} {w w' : World} {S : Nat → Prop}

theorem nil (H : Array Obj) (E : TypeId) (sz : Nat) : Ownd H E sz none 0 0 [] none := ⟨by simp, .inl ⟨rfl, rfl, rfl, rfl⟩⟩

theorem lt (h : Ownd H E sz a n cap xs ob) : ∀ g, ob = some g → g < H.size := by
  intro g hg
  rcases h.is with ⟨_, _, _, h1⟩ | ⟨g', cur, _, h1, h2, _⟩
  · rw [h1] at hg; cases hg
  · rw [h1] at hg; cases hg; exact (Array.getElem?_eq_some_iff.1 h2).1

theorem owns (h : Ownd w.heap E sz a n cap xs ob) (base : Nat) (hb : ∀ g, ob = some g → base ≤ g) : w.ownsRow base E sz (.slice a n cap) n xs := by
  refine ⟨h.len, ?_⟩
  rcases h.is with ⟨rfl, rfl, rfl, _⟩ | ⟨g, cur, rfl, h1, h2, h3, h4, h5, h6⟩
  · exact .inl ⟨rfl, rfl⟩
  · exact .inr ⟨g, cap, cur, rfl, hb g h1, h2, h3, h4, h5, h6⟩

theorem of_owns {base : Nat} {v : Value} (h : w.ownsRow base E sz v n xs) : ∃ a cap ob, v = .slice a n cap ∧ Ownd w.heap E sz a n cap xs ob ∧ ∀ g, ob = some g → base ≤ g := by
  obtain ⟨h0, h1⟩ := h
  rcases h1 with ⟨rfl, rfl⟩ | ⟨g, cap, cur, rfl, h1, h2, h3, h4, h5, h6⟩
  · exact ⟨none, 0, none, rfl, ⟨h0, .inl ⟨rfl, rfl, rfl, rfl⟩⟩, fun g hg => by cases hg⟩
  · exact ⟨_, cap, some g, rfl, ⟨h0, .inr ⟨g, cur, rfl, rfl, h2, h3, h4, h5, h6⟩⟩, fun g' hg => by cases hg; exact h1⟩

theorem fr (h : Ownd w.heap E sz a n cap xs ob) (f : Fr S w w') (hs : ∀ g, ob = some g → ¬ S g) : Ownd w'.heap E sz a n cap xs ob := by
  refine ⟨h.len, ?_⟩
  rcases h.is with h1 | ⟨g, cur, h0, h1, h2, h3⟩
  · exact .inl h1
  · exact .inr ⟨g, cur, h0, h1, by rw [f.block g (Array.getElem?_eq_some_iff.1 h2).1 (hs g h1)]; exact h2, h3⟩

/-- Where there is an element: the block, its cells, that they may be written. -/
theorem pos (h : Ownd w.heap E sz a n cap xs ob) (hn : 0 < n) : ∃ g, a = some ⟨g, 0, none⟩ ∧ ob = some g ∧ g < w.heap.size ∧ (∀ i, i < n * sz → w.cell? ⟨g, i, none⟩ = xs[i]?) ∧ ∀ i, w.frozen? ⟨g, i, none⟩ = false := by
  rcases h.is with ⟨_, h1, _⟩ | ⟨g, cur, h0, h1, h2, h3, h4, h5, h6⟩
  · omega
  · refine ⟨g, h0, h1, (Array.getElem?_eq_some_iff.1 h2).1, fun i hi => ?_, fun i => by simp [World.frozen?, h2]⟩
    have : w.cell? ⟨g, i, none⟩ = cur[i]? := by simp [World.cell?, h2]
    rw [this, ← h6, List.getElem?_take, if_pos hi]
    simp

theorem rd (h : Ownd H E sz a n cap xs ob) : Rd H a n sz xs := by
  refine ⟨h.len, ?_⟩
  rcases h.is with ⟨_, h1, _⟩ | ⟨g, cur, h0, h1, h2, h3, h4, h5, h6⟩
  · subst h1
    exact .inl (List.eq_nil_of_length_eq_zero (by simpa using h.len))
  · refine .inr ⟨g, 0, h0, (Array.getElem?_eq_some_iff.1 h2).1, fun w hw i hi => ?_⟩
    rw [h.len] at hi
    have : w.cell? ⟨g, 0 + i, none⟩ = cur[i]? := by simp [World.cell?, hw, h2]
    rw [this, ← h6, List.getElem?_take, if_pos hi]
    simp

/-- One cell written. -/
theorem set (h : Ownd w.heap E sz a n cap xs ob) {g : Nat} (hg : ob = some g) (i : Nat) (u : Value) : Ownd (w.setCell ⟨g, i, none⟩ u).heap E sz a n cap (xs.set i u) ob := by
  refine ⟨by simpa using h.len, ?_⟩
  rcases h.is with ⟨_, _, _, h1⟩ | ⟨g', cur, h0, h1, h2, h3, h4, h5, h6⟩
  · rw [h1] at hg; cases hg
  · rw [h1] at hg; cases hg
    refine .inr ⟨g, cur.setIfInBounds i u, h0, h1, ?_, h3, h4, by simpa using h5, ?_⟩
    · have hlt := (Array.getElem?_eq_some_iff.1 h2).1
      have h' : w.heap[g] = .cells cur E (0, 0) := by simpa [Array.getElem?_eq_getElem hlt] using h2
      show (w.heap.modify g _)[g]? = _
      rw [Array.getElem?_eq_getElem (by simpa using hlt), Array.getElem_modify_self, h']
      rfl
    · rw [← h6]
      simp [List.take_set]

theorem other (h : Ownd w.heap E sz a n cap xs ob) {p : Addr} (hp : ob ≠ some p.block) (u : Value) : Ownd (w.setCell p u).heap E sz a n cap xs ob := by
  refine ⟨h.len, ?_⟩
  rcases h.is with h1 | ⟨g, cur, h0, h1, h2, h3⟩
  · exact .inl h1
  · exact .inr ⟨g, cur, h0, h1, by rw [Below.heap_setCell _ _ _ _ (fun e => hp (by rw [h1, e]))]; exact h2, h3⟩

theorem alloc (h : Ownd w.heap E sz a n cap xs ob) (o : Obj) : Ownd (w.alloc o).heap E sz a n cap xs ob :=
  h.fr (S := fun _ => False) ((Fr.refl _ _).alloc o) (fun _ _ hf => hf)

/-- A row just laid. -/
theorem made (w : World) (E : TypeId) (sz n : Nat) (cs : List Value) (hl : cs.length = n * sz) (hn : n ≤ maxLen) :
    Ownd (w.alloc (.cells cs.toArray E)).heap E sz (some ⟨w.heap.size, 0, none⟩) n n cs (some w.heap.size) :=
  ⟨hl, .inr ⟨w.heap.size, cs.toArray, rfl, rfl, heap_alloc_new w _, Nat.le_refl _, hn, by simpa using hl, by rw [← hl]; simp⟩⟩
end Ownd

theorem info_of {P : Program} {e : TypeId} {z : Value} {size bytes : Nat} (h : (P.info? e).map (fun i => (i.zero, i.size, i.bytes)) = some (some z, size, bytes)) :
    ∃ i, P.info? e = some i ∧ i.zero = some z ∧ i.size = size ∧ i.bytes = bytes := info_parts h

/-- 'out = append(out, ..)', out the call's own: it is the call's own again: the same block, or the newest. -/
theorem wpList_app {P : Program} {w : World} {ops : Array Oper} {rest : List Oper} {o : Oper} {a : Act} {Q : Exit → Act → World → Prop}
    (hg : o.guard = none) (s x : Operand) (t : TypeId) (hop : o.op = Op.call { callee := Callee.builtin Builtin.append, args := #[s, x], argTypes := #[t, t] })
    {e : TypeId} {z : Value} {size bytes : Nat} (h1 : P.underlying t = some (.slice e)) (hinfo : (P.info? e).map (fun i => (i.zero, i.size, i.bytes)) = some (some z, size, bytes)) (h6 : z.cells.size = size) (h7 : 0 < size)
    {ao : Option Addr} {n cap : Nat} (hs : a.eval s = .slice ao n cap) {ax : Option Addr} {m c : Nat} (hx : a.eval x = .slice ax m c)
    {xs : List Value} {ob : Option Nat} (hown : Ownd w.heap e size ao n cap xs ob) {news : List Value} (hrd : Rd w.heap ax m size news) (h1c : ∀ u ∈ news, u.oneCell' = true)
    (hb : (n + m) * bytes ≤ 140737488355328) (hm : n + m ≤ 9223372036854775807)
    (hK : ∀ a' c' w' ob', Ownd w'.heap e size a' (n + m) c' (xs ++ news) ob' → Fr (fun k => ob = some k) w w' → (ob' = ob ∨ ∃ g, ob' = some g ∧ w.heap.size ≤ g) → wpList P ops Q rest (a.put o.dst (.slice a' (n + m) c')) w') :
    wpList P ops Q (o :: rest) a w := by
  obtain ⟨i, h2, h3, h4, h5⟩ := info_parts hinfo
  subst h4
  subst h5
  refine wpList_plain hg fun K hK' => ?_
  have fin : ∀ v' w', (Builtin.append_ #[t, t] o.type #[.slice ao n cap, .slice ax m c]).run P w = .ok v' w' →
      (∃ a' c' ob', v' = .slice a' (n + m) c' ∧ Ownd w'.heap e i.size a' (n + m) c' (xs ++ news) ob' ∧ Fr (fun k => ob = some k) w w' ∧ (ob' = ob ∨ ∃ g, ob' = some g ∧ w.heap.size ≤ g)) → o.wp P a w K Q := by
    rintro v' w' hrun ⟨a', c', ob', rfl, r1, r2, r3⟩
    unfold Oper.wp
    simp [execOp, hop, resolve, invoke, builtin, hs, hx, hrun, Result.andThen]
    exact hK' _ _ (hK a' c' w' ob' r1 r2 r3)
  -- nothing to append
  by_cases hz : m = 0
  · subst hz
    have hn0 : news = [] := List.eq_nil_of_length_eq_zero (by simpa using hrd.len)
    subst hn0
    have hfc : ∀ w, (Builtin.firstCells i.size 0 (.slice ax 0 c)).run P w = .ok #[] w := by
      intro w
      cases ax <;> simp [Builtin.firstCells, loadCells, loadCellsFrom, Sem.run_pure]
    have hle : n ≤ cap := by
      rcases hown.is with ⟨_, h1, h2, _⟩ | ⟨_, _, _, _, _, h, _⟩ <;> omega
    refine fin (.slice ao n cap) w ?_ ⟨ao, cap, ob, by simp, by simpa using hown, Fr.refl _ _, .inl rfl⟩
    cases ao with
    | none => simp [Builtin.append_, run_underlying h1, sizeOf, typeInfo, h2, Builtin.lenOf, hle, hfc]
    | some ad => simp [Builtin.append_, run_underlying h1, sizeOf, typeInfo, h2, Builtin.lenOf, hle, hfc, storeCells]
  · obtain ⟨b, off, rfl, hbl, hc⟩ := hrd.pos (Nat.mul_pos (by omega) h7)
    have hnews : ∀ j u, news[j]? = some u → w.cell? ((⟨b, off, none⟩ : Addr).add j) = some u := fun j u hj => by
      rw [Addr.add_lit, hc w rfl j (by rw [← hrd.len]; exact (List.getElem?_eq_some_iff.1 hj).1)]; exact hj
    by_cases hroom : n + m ≤ cap
    · rcases hown.is with ⟨_, _, h0, _⟩ | ⟨g, cur, rfl, h8, h9, h10, h11, h12, h13⟩
      · omega
      · have hbase : w.ownsRow g e i.size (.slice (some ⟨g, 0, none⟩) n cap) n xs := hown.owns g (fun g' hg' => by rw [h8] at hg'; cases hg'; exact Nat.le_refl _)
        obtain ⟨w', hrun, r1, r2⟩ := run_append_fits (P := P) w g t o.type e i i.size h1 h2 rfl g n cap xs hbase ⟨b, off, none⟩ m c news hrd.len hnews h1c hroom
        obtain ⟨a', cap', ob', hv, hown', hob⟩ := Ownd.of_owns r1
        simp only [Value.slice.injEq] at hv
        obtain ⟨rfl, _, rfl⟩ := hv
        have hob' : ob' = some g := by
          rcases hown'.is with ⟨h, _⟩ | ⟨g', _, h, h', _⟩
          · cases h
          · cases h; exact h'
        exact fin _ _ hrun ⟨_, _, ob', rfl, hown', (Fr.refl _ _).grown r2 (fun k hk _ => by cases hk; exact h8), .inl (by rw [hob', h8])⟩
    · obtain ⟨v', w', hrun, r1, r2⟩ : ∃ v' w', (Builtin.append_ #[t, t] o.type #[.slice ao n cap, .slice (some ⟨b, off, none⟩) m c]).run P w = .ok v' w' ∧ w'.ownsRow w.heap.size e i.size v' (n + m) (xs ++ news) ∧ w.grownBy w' none := by
        rcases hown.is with ⟨rfl, rfl, rfl, rfl⟩ | ⟨g, cur, rfl, h8, h9, h10, h11, h12, h13⟩
        · obtain rfl : xs = [] := List.eq_nil_of_length_eq_zero (by simpa using hown.len)
          obtain ⟨v', w', hrun, r1, r2, _⟩ := run_append_own (P := P) w w.heap.size t o.type e i z i.size i.bytes h1 h2 h3 rfl rfl h6 h7 (.slice none 0 0) 0 [] (World.ownsRow_nil w _ e i.size) ⟨b, off, none⟩ m c news hrd.len hnews h1c (by unfold maxLen; omega) hb (Nat.le_refl _)
          exact ⟨v', w', hrun, r1, r2⟩
        · refine run_append_arg_grows (P := P) w t o.type e i z i.size i.bytes h1 h2 h3 rfl rfl h6 h7 ⟨g, 0, none⟩ n cap xs hown.len (fun j u hj => ?_) ⟨b, off, none⟩ m c news hrd.len hnews (by omega) (by unfold maxLen; omega) hb
          have hj' : j < n * i.size := by rw [← hown.len]; exact (List.getElem?_eq_some_iff.1 hj).1
          have hn : 0 < n := by
            rcases Nat.eq_zero_or_pos n with h | h
            · subst h; simp at hj'
            · exact h
          obtain ⟨g', hg1, hg2, _, hg4, _⟩ := hown.pos hn
          cases hg1
          rw [Addr.add_lit, Nat.zero_add, hg4 j hj']; exact hj
      obtain ⟨a', cap', ob', rfl, hown', hob⟩ := Ownd.of_owns r1
      refine fin _ _ hrun ⟨_, _, ob', rfl, hown', (Fr.refl _ _).grown r2 (fun k hk => by cases hk), .inr ?_⟩
      rcases hown'.is with ⟨_, h, _⟩ | ⟨g', _, _, h', _⟩
      · omega
      · exact ⟨g', h', hob g' h'⟩

/-- Lists of plain integers. -/
abbrev ivals (k : IntKind) (l : List Int) : List Value := l.map (Value.int k)
theorem ivals_one (k : IntKind) (l : List Int) : ∀ u ∈ ivals k l, u.oneCell' = true := ints_oneCell k l
abbrev Ints (H : Array Obj) (a : Option Addr) (l : List Int) : Prop := Rd H a l.length 1 (ivals .i64 l)
theorem Ints.pos {H : Array Obj} {k : IntKind} {a : Option Addr} {n : Nat} {l : List Int} (h : Rd H a n 1 (ivals k l)) (hn : 0 < n) :
    ∃ b off, a = some ⟨b, off, none⟩ ∧ b < H.size ∧ ∀ (w : World), w.heap = H → ∀ i, i < n → w.cell? ⟨b, off + i, none⟩ = some (.int k (nth l i)) := by
  obtain ⟨b, off, h1, h2, h3⟩ := h.pos (by omega)
  refine ⟨b, off, h1, h2, fun w hw i hi => ?_⟩
  have hl : i < l.length := by have := h.len; simp at this; omega
  rw [h3 w hw i (by omega)]
  simp [nth_get? l i hl]

/-- What is handed back: a slice in new memory ('f': what stands about it); nothing that was there has turned. -/
def RetNew (w : World) (E : TypeId) (sz n : Nat) (xs : List Value) (f : Value → Value) (e : Ending) (w' : World) : Prop :=
  ∃ a c ob, e = .returned (f (.slice a n c)) ∧ Ownd w'.heap E sz a n c xs ob ∧ Fr (fun _ => False) w w' ∧ ∀ g, ob = some g → w.heap.size ≤ g
/-- A plain value, nothing that was there has turned. -/
def RetV (w : World) (v : Value) (e : Ending) (w' : World) : Prop := e = .returned v ∧ Fr (fun _ => False) w w'
/-- A plain value, the world the same but for draws. -/
def RetQ (w : World) (v : Value) (e : Ending) (w' : World) : Prop := e = .returned v ∧ ∃ n, w' = w.drewN n
theorem RetQ.v {w : World} {v : Value} {e : Ending} {w' : World} (h : RetQ w v e w') : RetV w v e w' := by
  obtain ⟨h1, n, rfl⟩ := h; exact ⟨h1, (Fr.refl _ _).drewN n⟩
theorem RetQ.mk {w w' : World} {v u x : Value} {e : Ending} (h : x = v) (he : e = .returned u) (n : Nat) (hw : w' = w.drewN n) (hu : u = x := by rfl) : RetQ w v e w' := by
  subst h; subst hu; exact ⟨he, n, hw⟩
theorem RetV.mk {w w' : World} {v u x : Value} {e : Ending} (h : x = v) (he : e = .returned u) (hw : Fr (fun _ => False) w w') (hu : u = x := by rfl) : RetV w v e w' := by
  subst h; subst hu; exact ⟨he, hw⟩
theorem Fr.none {w w' : World} (h : Fr (fun _ => False) w w') (S : Nat → Prop) : Fr S w w' := h.mono (fun _ _ f => f.elim)

/-- A block known whole: its cells, none frozen. -/
def Blk (H : Array Obj) (g : Nat) (E : TypeId) (cs : List Value) : Prop := H[g]? = some (.cells cs.toArray E (0, 0))
namespace Blk
variable {w w' : World} {g : Nat} {E : TypeId} {cs : List Value} {S : Nat → Prop} {H : Array Obj}
theorem lt (h : Blk H g E cs) : g < H.size := (Array.getElem?_eq_some_iff.1 h).1
theorem cell (h : Blk w.heap g E cs) (i : Nat) : w.cell? ⟨g, i, none⟩ = cs[i]? := by
  have h' : w.heap[g]? = some (.cells cs.toArray E (0, 0)) := h
  simp [World.cell?, h']
theorem frozen (h : Blk w.heap g E cs) (i : Nat) : w.frozen? ⟨g, i, none⟩ = false := by
  have h' : w.heap[g]? = some (.cells cs.toArray E (0, 0)) := h
  simp [World.frozen?, h']
theorem fr (h : Blk w.heap g E cs) (f : Fr S w w') (hs : ¬ S g) : Blk w'.heap g E cs := (f.block g h.lt hs).trans h
theorem alloc (h : Blk w.heap g E cs) (o : Obj) : Blk (w.alloc o).heap g E cs := h.fr (S := fun _ => False) ((Fr.refl _ _).alloc o) (fun hf => hf)
theorem made (w : World) (E : TypeId) (cs : List Value) : Blk (w.alloc (.cells cs.toArray E)).heap w.heap.size E cs := heap_alloc_new w _
theorem set (h : Blk w.heap g E cs) (i : Nat) (u : Value) : Blk (w.setCell ⟨g, i, none⟩ u).heap g E (cs.set i u) := by
  have hlt := h.lt
  have h' : w.heap[g] = .cells cs.toArray E (0, 0) := by have := h; unfold Blk at this; simpa [Array.getElem?_eq_getElem hlt] using this
  show (w.heap.modify g _)[g]? = _
  rw [Array.getElem?_eq_getElem (by simpa using hlt), Array.getElem_modify_self, h']
  simp
theorem other (h : Blk w.heap g E cs) {p : Addr} (hp : g ≠ p.block) (u : Value) : Blk (w.setCell p u).heap g E cs := by
  unfold Blk; rw [Below.heap_setCell _ _ _ _ hp]; exact h
theorem own (h : Blk H g E cs) {sz n cap : Nat} (hn : n ≤ cap) (hc : cap ≤ maxLen) (hl : cs.length = cap * sz) : Ownd H E sz (some ⟨g, 0, none⟩) n cap (cs.take (n * sz)) (some g) := by
  refine ⟨?_, .inr ⟨g, cs.toArray, rfl, rfl, h, hn, hc, by simpa using hl, by simp⟩⟩
  rw [List.length_take, hl]
  exact Nat.min_eq_left (Nat.mul_le_mul_right _ hn)
theorem rd (h : Blk H g E cs) {sz n off : Nat} (hl : off + n * sz ≤ cs.length) : Rd H (some ⟨g, off, none⟩) n sz ((cs.drop off).take (n * sz)) := by
  refine ⟨by simp; omega, .inr ⟨g, off, rfl, h.lt, fun w hw i hi => ?_⟩⟩
  subst hw
  rw [h.cell]
  simp only [List.length_take, List.length_drop] at hi
  rw [List.getElem?_take, if_pos (by omega), List.getElem?_drop]
end Blk

/-- What a copy asks. (A name of its own: the walk's simp does not see into it.) -/
def CpySide (w : World) (dp sp : Option Addr) (sLen dLen size g off : Nat) (cur cs : List Value) : Prop :=
  cs.length = min sLen dLen * size ∧ (0 < cs.length → dp = some ⟨g, off, none⟩ ∧ ∃ ad, sp = some ad ∧ ∀ j v, cs[j]? = some v → w.cell? (ad.add j) = some v) ∧ off + cs.length ≤ cur.length ∧ ∀ v ∈ cs, v.oneCell' = true

/-- 'copy(dst, src)', dst in a block that is known whole. -/
theorem wpList_cpy {P : Program} {w : World} {ops : Array Oper} {rest : List Oper} {o : Oper} {a : Act} {Q : Exit → Act → World → Prop} (hgd : o.guard = none) (d s : Operand) (dT sT : TypeId)
    (ho : o.op = .call { callee := .builtin .copy, args := #[d, s], argTypes := #[dT, sT] }) {elem : TypeId} {z : Value} {size bytes : Nat} (hu : P.underlying dT = some (.slice elem))
    (hinfo : (P.info? elem).map (fun i => (i.zero, i.size, i.bytes)) = some (some z, size, bytes))
    {dp sp : Option Addr} {dLen dCap sLen sCap : Nat} (hd : a.eval d = .slice dp dLen dCap) (hs : a.eval s = .slice sp sLen sCap)
    {g off : Nat} {cur cs : List Value} {t : TypeId} (hg : Blk w.heap g t cur)
    (hside : CpySide w dp sp sLen dLen size g off cur cs)
    (h : ∀ w', Blk w'.heap g t (splice cur off cs) → Fr (fun k => k = g) w w' → w'.heap.size = w.heap.size → wpList P ops Q rest (a.put o.dst (goInt (min sLen dLen : Nat))) w') :
    wpList P ops Q (o :: rest) a w := by
  obtain ⟨i, h2, h3, h4, h5⟩ := info_parts hinfo
  subst h4
  obtain ⟨hn, hpos, hfit, h1⟩ := hside
  have hn : cs.length = Nat.min sLen dLen * i.size := hn
  refine wpList_plain hgd fun K hK => ?_
  have fin : ∀ w', (Builtin.copy_ #[dT, sT] o.type #[.slice dp dLen dCap, .slice sp sLen sCap]).run P w = .ok (goInt (Nat.min sLen dLen : Nat)) w' →
      Blk w'.heap g t (splice cur off cs) → Fr (fun k => k = g) w w' → w'.heap.size = w.heap.size → o.wp P a w K Q := by
    intro w' hrun r1 r2 r3
    unfold Oper.wp
    simp [execOp, ho, resolve, invoke, builtin, hd, hs, hrun, Result.andThen]
    exact hK _ _ (h w' r1 r2 r3)
  by_cases h0 : cs.length = 0
  · obtain rfl : cs = [] := List.eq_nil_of_length_eq_zero h0
    have hfc : ∀ w, (Builtin.firstCells i.size (Nat.min sLen dLen) (.slice sp sLen sCap)).run P w = .ok #[] w := by
      intro w
      have : Nat.min sLen dLen * i.size = 0 := by simpa using hn.symm
      cases sp <;> simp [Builtin.firstCells, this, loadCells, loadCellsFrom, Sem.run_pure]
    refine fin w ?_ (by simpa [splice, Blk] using hg) (Fr.refl _ _) rfl
    cases dp <;> simp [Builtin.copy_, run_underlying hu, sizeOf, typeInfo, h2, Builtin.lenOf, hfc, storeCells, goInt]
  · obtain ⟨rfl, ad, rfl, hsrc⟩ := hpos (by omega)
    have hf := run_firstCells_some (P := P) w i.size (Nat.min sLen dLen) ad sLen sCap cs hn hsrc
    have hst := run_storeCells_at P g off t cs 0 cur.toArray w hg (by simpa using hfit) h1
    simp only [Nat.add_zero] at hst
    refine fin (w.setRow g (splice cur off cs).toArray) ?_ ?_ ?_ ?_
    · simp [Builtin.copy_, run_underlying hu, sizeOf, typeInfo, h2, Builtin.lenOf, hf, hst, goInt, splice]
    · exact setRow_heap w g _ _ t _ hg
    · exact ⟨rfl, rfl, rfl, by simp [World.setRow], fun k hk hs => setRow_other w g k _ hs⟩
    · simp [World.setRow]

theorem madeCells_eq (z : Array Value) (n : Nat) : madeCells z (n * z.size) = ((List.replicate n z.toList).flatten).toArray := by
  apply Array.ext'
  simp only [madeCells, Array.toList_map, Array.toList_range]
  induction n with
  | zero => simp
  | succ n ih =>
    rw [Nat.succ_mul, List.range_add, List.map_append, ih, List.replicate_succ', List.flatten_append]
    simp only [List.map_map, List.flatten_cons, List.flatten_nil, List.append_nil]
    congr 1
    apply List.ext_getElem
    · simp
    · intro k h1 h2
      have hk : k < z.size := by simpa using h1
      simp [Nat.mul_add_mod_self_right, Nat.mod_eq_of_lt hk, hk]

/-- 'make([]T, n)', n a variable. -/
theorem wpList_mk {P : Program} {w : World} {ops : Array Oper} {rest : List Oper} {o : Oper} {a : Act} {Q : Exit → Act → World → Prop}
    (hg : o.guard = none) (l c : Operand) (t : TypeId) (hop : o.op = Op.makeSlice t l c)
    {e : TypeId} {z : Value} {size bytes : Nat} (h1 : P.underlying t = some (.slice e)) (hinfo : (P.info? e).map (fun i => (i.zero, i.size, i.bytes)) = some (some z, size, bytes)) (h6 : z.cells.size = size)
    {kl kc : IntKind} {L C : Int} (n : Nat) (hl : a.eval l = .int kl L) (hc : a.eval c = .int kc C) (hL : L = (n : Int)) (hC : C = (n : Int)) (b2 : bytes * n ≤ 281474976710656) (b3 : n ≤ 9223372036854775807)
    (hK : ∀ w', Blk w'.heap w.heap.size e ((List.replicate n z.cells.toList).flatten) → Fr (fun _ => False) w w' → w.heap.size < w'.heap.size → wpList P ops Q rest (a.put o.dst (.slice (some ⟨w.heap.size, 0, none⟩) n n)) w') :
    wpList P ops Q (o :: rest) a w := by
  obtain ⟨i, h2, h3, h4, h5⟩ := info_parts hinfo
  subst h4
  subst h5
  subst hL
  subst hC
  refine wpList_plain hg fun K hK' => ?_
  have hb' : (i.bytes : Int) * (n : Int) ≤ 281474976710656 := by
    have h : ((i.bytes * n : Nat) : Int) ≤ 281474976710656 := by omega
    rwa [Int.natCast_mul] at h
  have hrun := run_make (P := P) (w := w) t e i z h1 h2 h3 kl kc n n (by omega) (Int.le_refl _) hb' (by omega)
  unfold Oper.wp
  simp [execOp, hop, hl, hc, hrun, Result.andThen]
  refine hK' _ _ (hK _ ?_ ((Fr.refl _ _).alloc _) (by simp))
  have e1 : madeCells z.cells (n * i.size) = ((List.replicate n z.cells.toList).flatten).toArray := by
    rw [← h6]
    exact madeCells_eq z.cells n
  rw [e1]
  exact Blk.made w e _

/-- A slice of slices of integers that can be read. -/
structure Mat (H : Array Obj) (a : Option Addr) (rs : List (List Int)) (A : Nat → Option Addr) (C : Nat → Nat) : Prop where
  top : Rd H a rs.length 1 ((List.range rs.length).map fun i => .slice (A i) (nth rs i).length (C i))
  row : ∀ i, i < rs.length → Rd H (A i) (nth rs i).length 1 (ivals .i64 (nth rs i))
  lens : ∀ i, i < rs.length → (nth rs i).length ≤ 9223372036854775807

theorem Mat.pos {H : Array Obj} {a : Option Addr} {rs : List (List Int)} {A : Nat → Option Addr} {C : Nat → Nat} (h : Mat H a rs A C) (hn : 0 < rs.length) :
    ∃ b off, a = some ⟨b, off, none⟩ ∧ b < H.size ∧ ∀ (w : World), w.heap = H → ∀ i, i < rs.length → w.cell? ⟨b, off + i, none⟩ = some (.slice (A i) (nth rs i).length (C i)) := by
  obtain ⟨b, off, h1, h2, h3⟩ := h.top.pos (by omega)
  refine ⟨b, off, h1, h2, fun w hw i hi => ?_⟩
  rw [h3 w hw i (by omega)]
  simp [hi]

theorem Mat.fr {S : Nat → Prop} {w w' : World} {a : Option Addr} {rs : List (List Int)} {A : Nat → Option Addr} {C : Nat → Nat} (h : Mat w.heap a rs A C) (f : Fr S w w') (hs : ∀ k, k < w.heap.size → ¬ S k) : Mat w'.heap a rs A C := by
  refine ⟨?_, fun i hi => ?_, h.lens⟩
  · rcases h.top.at' with h1 | ⟨b, off, h1, h2, h3⟩
    · exact ⟨h.top.len, .inl h1⟩
    · exact h.top.fr f (fun b' off' e => by rw [h1] at e; cases e; exact hs _ h2)
  · rcases (h.row i hi).at' with h1 | ⟨b, off, h1, h2, h3⟩
    · exact ⟨(h.row i hi).len, .inl h1⟩
    · exact (h.row i hi).fr f (fun b' off' e => by rw [h1] at e; cases e; exact hs _ h2)

theorem Rd.fr0 {S : Nat → Prop} {w w' : World} {a : Option Addr} {n sz : Nat} {xs : List Value} (h : Rd w.heap a n sz xs) (f : Fr S w w') (hs : ∀ k, k < w.heap.size → ¬ S k) : Rd w'.heap a n sz xs := by
  rcases h.at' with h1 | ⟨b, off, h1, h2, h3⟩
  · exact ⟨h.len, .inl h1⟩
  · exact h.fr f (fun b' off' e => by rw [h1] at e; cases e; exact hs _ h2)

theorem app_new {ob ob2 : Option Nat} {base B : Nat} (hob : ∀ g, ob = some g → base ≤ g) (h : ob2 = ob ∨ ∃ g, ob2 = some g ∧ B ≤ g) (hB : base ≤ B) : ∀ g, ob2 = some g → base ≤ g := by
  intro g hg
  rcases h with h | ⟨g', h, h'⟩
  · exact hob g (by rw [← h, hg])
  · rw [hg] at h; cases h; omega
theorem Fr.app {S : Nat → Prop} {w wr w2 : World} {ob : Option Nat} (hF : Fr S w wr) (h : Fr (fun k => ob = some k) wr w2) (hob : ∀ g, ob = some g → w.heap.size ≤ g) : Fr S w w2 :=
  hF.trans' h (fun i hi hs => by have := hob i hs; omega)
theorem Ints.drop {H : Array Obj} {b off : Nat} {l : List Int} (h : Ints H (some ⟨b, off, none⟩) l) (k : Nat) : Ints H (some ⟨b, off + k, none⟩) (l.drop k) := by
  refine ⟨by simp [ivals], ?_⟩
  rcases h.at' with h1 | ⟨b', off', h1, h2, h3⟩
  · left; simp only [ivals, List.map_eq_nil_iff] at h1; subst h1; simp
  · right
    cases h1
    refine ⟨b, off + k, rfl, h2, fun w hw i hi => ?_⟩
    have hi' : k + i < l.length := by simp at hi; omega
    rw [Nat.add_assoc, h3 w hw (k + i) (by simpa using hi')]
    simp
/-- A literal of one row of one number. -/
theorem Mat.one (w : World) (x : Int) (T U : TypeId) : Mat ((w.alloc (.cells #[.int .i64 x] T)).alloc (.cells #[.slice (some ⟨w.heap.size, 0, none⟩) 1 1] U)).heap (some ⟨w.heap.size + 1, 0, none⟩) [[x]] (fun _ => some ⟨w.heap.size, 0, none⟩) (fun _ => 1) := by
  have h1 := (Blk.made w T [.int .i64 x]).alloc (.cells #[.slice (some ⟨w.heap.size, 0, none⟩) 1 1] U)
  have h2 := Blk.made (w.alloc (.cells #[.int .i64 x] T)) U [.slice (some ⟨w.heap.size, 0, none⟩) 1 1]
  refine ⟨?_, ?_, ?_⟩
  · have := h2.rd (sz := 1) (n := 1) (off := 0) (by simp)
    simpa [nth] using this
  · intro i hi
    have h0 : i = 0 := by simp at hi; exact hi
    subst h0
    exact h1.rd (sz := 1) (n := 1) (off := 0) (by simp)
  · intro i hi
    have h0 : i = 0 := by simp at hi; exact hi
    subst h0
    show [x].length ≤ _
    simp
theorem Ownd.le {H : Array Obj} {E : TypeId} {sz : Nat} {a : Option Addr} {n cap : Nat} {xs : List Value} {ob : Option Nat} (h : Ownd H E sz a n cap xs ob) : n ≤ 9223372036854775807 := by
  rcases h.is with ⟨_, h1, _⟩ | ⟨g, cur, h0, h1, h2, h3, h4, h5, h6⟩
  · omega
  · have : maxLen = 9223372036854775807 := rfl
    omega
theorem ivals_get (k : IntKind) (l : List Int) (i : Nat) (h : i < l.length) : (ivals k l)[i]? = some (.int k (nth l i)) := by simp [nth_get? l i h]
theorem Ownd.cap {H : Array Obj} {E : TypeId} {sz : Nat} {a : Option Addr} {n cap : Nat} {xs : List Value} {ob : Option Nat} (h : Ownd H E sz a n cap xs ob) : n ≤ cap := by
  rcases h.is with ⟨_, h1, h2, _⟩ | ⟨_, _, _, _, _, h, _⟩ <;> omega
theorem Blk.eq {H : Array Obj} {g : Nat} {E : TypeId} {cs cs' : List Value} (h : Blk H g E cs) (e : cs = cs') : Blk H g E cs' := e ▸ h
/-- A cell written ahead of a new block (the walk puts the writings first). -/
theorem Fr.past {S : Nat → Prop} {w : World} (o : Obj) (g i : Nat) (u : Value) (hg : g < w.heap.size) (hs : S g) : Fr S (w.alloc o) ((w.setCell ⟨g, i, Option.none⟩ u).alloc o) := by
  rw [← World.setCell_alloc_past o g i u hg]
  exact (Fr.refl _ _).setCell (fun _ => hs) _
theorem Fr.at1 {w w' : World} {g : Nat} (h : Fr (fun k => k = g) w w') (i : Nat) (u : Value) : Fr (fun k => k = g) w (w'.setCell ⟨g, i, Option.none⟩ u) := h.setCell (fun _ => rfl) u
end Go
