import Derived.Test.YtgfbkebbnfcgkaaRecs
import Derived.Lib.AppendZerosOnto
import Derived.Lib.Overlaps
import Derived.Laws.Append
namespace Go
open Go.RowKit

theorem flat_take {α : Type} (f : α → List Value) (k : Nat) (hk : ∀ x, (f x).length = k) : ∀ (l : List α) (i : Nat), (l.flatMap f).take (i * k) = (l.take i).flatMap f := by
  intro l
  induction l with
  | nil => intro i; simp
  | cons x l ih =>
    intro i
    cases i with
    | zero => simp
    | succ i =>
      rw [List.flatMap_cons, List.take_append, hk, List.take_of_length_le (by rw [hk, Nat.succ_mul]; omega), List.take_succ_cons, List.flatMap_cons]
      congr 1
      rw [show (i + 1) * k - k = i * k by rw [Nat.succ_mul]; omega]
      exact ih i
theorem flat_drop {α : Type} (f : α → List Value) (k : Nat) (hk : ∀ x, (f x).length = k) : ∀ (l : List α) (i : Nat), (l.flatMap f).drop (i * k) = (l.drop i).flatMap f := by
  intro l
  induction l with
  | nil => intro i; simp
  | cons x l ih =>
    intro i
    cases i with
    | zero => simp
    | succ i =>
      rw [List.flatMap_cons, List.drop_append, hk, List.drop_of_length_le (by rw [hk, Nat.succ_mul]; omega), List.drop_succ_cons, List.nil_append]
      rw [show (i + 1) * k - k = i * k by rw [Nat.succ_mul]; omega]
      exact ih i
/-- Room made, and filled: in place. -/
theorem ins_place {cur A X B : List Value} (h1 : cur.take (A.length + B.length) = A ++ B) (h2 : A.length + X.length + B.length ≤ cur.length) :
    (splice (splice cur (A.length + X.length) B) A.length X).take (A.length + X.length + B.length) = A ++ X ++ B := by
  have hA : cur.take A.length = A := by
    have := congrArg (List.take A.length) h1
    rw [List.take_take, List.take_append_of_le_length (Nat.le_refl _), List.take_length] at this
    rwa [Nat.min_eq_left (by omega)] at this
  unfold splice
  have e1 : (List.take (A.length + X.length) cur ++ (B ++ List.drop (A.length + X.length + B.length) cur)).take A.length = A := by
    rw [List.take_append_of_le_length (by rw [List.length_take]; omega), List.take_take, Nat.min_eq_left (by omega), hA]
  have e2 : (List.take (A.length + X.length) cur ++ (B ++ List.drop (A.length + X.length + B.length) cur)).drop (A.length + X.length) = B ++ List.drop (A.length + X.length + B.length) cur := by
    have hl : (List.take (A.length + X.length) cur).length = A.length + X.length := by rw [List.length_take]; omega
    rw [List.drop_append, hl, Nat.sub_self, List.drop_of_length_le (by omega)]; simp
  rw [e1, e2]
  have e3 : A ++ (X ++ (B ++ List.drop (A.length + X.length + B.length) cur)) = (A ++ X ++ B) ++ List.drop (A.length + X.length + B.length) cur := by simp
  rw [e3, List.take_append_of_le_length (by simp; omega), List.take_of_length_le (by simp; omega)]
/-- Filled, one behind the other. -/
theorem ins_new {cur A X B : List Value} (h1 : cur.take A.length = A) (_h2 : A.length + X.length + B.length ≤ cur.length) :
    (splice (splice cur A.length X) (A.length + X.length) B).take (A.length + X.length + B.length) = A ++ X ++ B := by
  unfold splice
  have hlA : (List.take A.length cur).length = A.length := by rw [h1]
  have e1 : (List.take A.length cur ++ (X ++ List.drop (A.length + X.length) cur)).take (A.length + X.length) = A ++ X := by
    rw [h1, ← List.append_assoc, List.take_append_of_le_length (by simp), List.take_of_length_le (by simp)]
  rw [e1]
  rw [show A ++ X ++ (B ++ List.drop (A.length + X.length + B.length) (List.take A.length cur ++ (X ++ List.drop (A.length + X.length) cur))) = (A ++ X ++ B) ++ List.drop (A.length + X.length + B.length) (List.take A.length cur ++ (X ++ List.drop (A.length + X.length) cur)) by simp]
  rw [List.take_append_of_le_length (by simp; omega), List.take_of_length_le (by simp; omega)]

theorem Blk.shape {w : World} {g : Nat} {E : TypeId} {cs : List Value} (h : Blk w.heap g E cs) : w.shape? g = some (E, cs.length) := by
  have h' : w.heap[g]? = some (.cells cs.toArray E (0, 0)) := h
  simp [World.shape?, h']
/-- An own slice's block, whole. -/
theorem Ownd.blk {H : Array Obj} {E : TypeId} {sz : Nat} {a : Option Addr} {n cap : Nat} {xs : List Value} {ob : Option Nat} (h : Ownd H E sz a n cap xs ob) (hn : 0 < n) :
    ∃ g cur, a = some ⟨g, 0, none⟩ ∧ ob = some g ∧ Blk H g E cur ∧ n ≤ cap ∧ cap ≤ maxLen ∧ cur.length = cap * sz ∧ cur.take (n * sz) = xs := by
  rcases h.is with ⟨_, h1, _⟩ | ⟨g, cur, h0, h1, h2, h3, h4, h5, h6⟩
  · omega
  · exact ⟨g, cur.toList, h0, h1, by unfold Blk; simpa using h2, h3, h4, by simpa using h5, h6⟩
theorem Ownd.of_blk {H : Array Obj} {E : TypeId} {sz g n cap : Nat} {cur xs : List Value} (h : Blk H g E cur) (hn : n ≤ cap) (hc : cap ≤ maxLen) (hl : cur.length = cap * sz) (hx : cur.take (n * sz) = xs) : Ownd H E sz (some ⟨g, 0, none⟩) n cap xs (some g) := by
  have := h.own hn hc hl
  rw [hx] at this
  exact this

/-- What is handed back: a slice of the call's own, in its old block or in a new one. -/
def RetApp (w : World) (ob : Option Nat) (E : TypeId) (sz n : Nat) (xs : List Value) (e : Ending) (w' : World) : Prop :=
  ∃ a' c' ob', e = .returned (.slice a' n c') ∧ Ownd w'.heap E sz a' n c' xs ob' ∧ Fr (fun k => ob = some k) w w' ∧ (ob' = ob ∨ ∃ g, ob' = some g ∧ w.heap.size ≤ g)
/-- 'append(s, make([]T, m)...)', no room: a new block. -/
theorem wpList_appzo {P : Program} {w : World} {ops : Array Oper} {rest : List Oper} {o : Oper} {a : Act} {Q : Exit → Act → World → Prop}
    (hg : o.guard = none) (s x : Operand) (t tn : TypeId) (hop : o.op = Op.call { callee := Callee.builtin Builtin.append, args := #[s, x], argTypes := #[t, tn] })
    {e : TypeId} {z : Value} {size bytes : Nat} {k kn : IntKind} (h1 : P.underlying t = some (.slice e)) (htn : P.underlying tn = some (.int kn)) (hinfo : (P.info? e).map (fun i => (i.zero, i.size, i.bytes)) = some (some z, size, bytes)) (h6 : z.cells.size = size) (h7 : 0 < size)
    {g i cap : Nat} (hs : a.eval s = .slice (some ⟨g, 0, none⟩) i cap) {m : Nat} {M : Int} (hx : a.eval x = .int k M) (hM : M = (m : Int)) (h0 : 0 < m) (hroom : cap < i + m) (hb : (i + m) * bytes ≤ 140737488355328) (hm : i + m ≤ 9223372036854775807)
    {xs : List Value} (hrd : Rd w.heap (some ⟨g, 0, none⟩) i size xs)
    (hK : ∀ c' cs w', i + m ≤ c' → c' ≤ maxLen → Blk w'.heap w.heap.size e cs → cs.length = c' * size → cs.take (i * size) = xs → Fr (fun _ => False) w w' → wpList P ops Q rest (a.put o.dst (.slice (some ⟨w.heap.size, 0, none⟩) (i + m) c')) w') :
    wpList P ops Q (o :: rest) a w := by
  obtain ⟨inf, h2, h3, h4, h5⟩ := info_parts hinfo
  subst h4
  subst h5
  subst hM
  refine wpList_plain hg fun K hK' => ?_
  have hold : (Builtin.firstCells inf.size i (.slice (some ⟨g, 0, none⟩) i cap)).run P w.drew = .ok xs.toArray w.drew := by
    refine run_firstCells_some w.drew inf.size i ⟨g, 0, none⟩ i cap xs hrd.len (fun j v hj => ?_)
    have hj' : j < xs.length := (List.getElem?_eq_some_iff.1 hj).1
    rcases hrd.at' with h | ⟨b, off, hh, _, hc⟩
    · rw [h] at hj; simp at hj
    · cases hh
      rw [Addr.add_lit, hc w.drew rfl j hj']; exact hj
  have hmb : m * inf.bytes ≤ (i + m) * inf.bytes := Nat.mul_le_mul_right _ (by omega)
  have hrun := Lib.run_append_grow_zeros (P := P) w t tn o.type e inf z k kn h1 htn h2 h3 (some ⟨g, 0, none⟩) i cap xs hold m h0 h7 hroom (by omega) (by omega) (growslice_fits hroom hb)
  have hge := grownCap_ge w (i + m) cap e
  have hmx := grownCap_le_maxLen w (i + m) cap e (by unfold maxLen; omega)
  unfold Oper.wp
  simp [execOp, hop, resolve, invoke, builtin, hs, hx, hrun, Result.andThen]
  have hz : ∀ m, (Builtin.zeroCells z.cells m).size = m * inf.size := fun m => by rw [← h6]; simp [Builtin.zeroCells]
  refine hK' _ _ (hK _ (xs ++ ((Builtin.zeroCells z.cells m).toList ++ (Builtin.zeroCells z.cells (grownCap w (i + m) cap e - (i + m))).toList)) _ hge hmx ?_ ?_ ?_ ((Fr.refl _ w).drew.alloc _))
  · have := heap_alloc_new w.drew (.cells (xs.toArray ++ (Builtin.zeroCells z.cells m ++ Builtin.zeroCells z.cells (grownCap w (i + m) cap e - (i + m)))) e)
    unfold Blk
    have e1 : (xs ++ ((Builtin.zeroCells z.cells m).toList ++ (Builtin.zeroCells z.cells (grownCap w (i + m) cap e - (i + m))).toList)).toArray = xs.toArray ++ (Builtin.zeroCells z.cells m ++ Builtin.zeroCells z.cells (grownCap w (i + m) cap e - (i + m))) := by
      apply Array.ext'; simp
    rw [e1]
    exact this
  · simp only [List.length_append, Array.length_toList, hz]
    rw [hrd.len, ← Nat.add_mul, ← Nat.add_mul]
    congr 1
    omega
  · rw [← hrd.len, List.take_append_of_le_length (Nat.le_refl _), List.take_length]
end Go
