import Derived.Test.YtakkljdeencfbaaDoorSl
import Derived.Lib.AppendZeros
namespace Go
open Go.RowKit
/-- 'append([]T(nil), make([]T, n)...)', n > 0. -/
theorem wpList_appz {P : Program} {w : World} {ops : Array Oper} {rest : List Oper} {o : Oper} {a : Act} {Q : Exit → Act → World → Prop}
    (hg : o.guard = none) (s x : Operand) (t tn : TypeId) (hop : o.op = Op.call { callee := Callee.builtin Builtin.append, args := #[s, x], argTypes := #[t, tn] })
    {e : TypeId} {z : Value} {size bytes : Nat} {k kn : IntKind} (h1 : P.underlying t = some (.slice e)) (htn : P.underlying tn = some (.int kn)) (hinfo : (P.info? e).map (fun i => (i.zero, i.size, i.bytes)) = some (some z, size, bytes)) (h6 : z.cells.size = size) (h7 : 0 < size)
    (hs : a.eval s = .slice none 0 0) {n : Nat} (hx : a.eval x = .int k (n : Int)) (h0 : 0 < n) (hb : n * bytes ≤ 281474976710656) (hm : n ≤ 9223372036854775807)
    (hK : ∀ c' w', n ≤ c' → Own w'.heap e size (some ⟨w.heap.size, 0, none⟩) 0 c' [] (some w.heap.size) → Fr (fun _ => False) w w' → wpList P ops Q rest (a.put o.dst (.slice (some ⟨w.heap.size, 0, none⟩) n c')) w') :
    wpList P ops Q (o :: rest) a w := by
  obtain ⟨i, h2, h3, h4, h5⟩ := info_parts hinfo
  subst h4
  subst h5
  refine wpList_plain hg fun K hK' => ?_
  have hrun := Lib.run_append_nil_zeros (P := P) w t tn o.type e i z k kn h1 htn h2 h3 n h0 h7 (by omega) hb
  have hge := grownCap_ge w n 0 e
  have hmx := grownCap_le_maxLen w n 0 e (by unfold maxLen; omega)
  unfold Oper.wp
  simp [execOp, hop, resolve, invoke, builtin, hs, hx, hrun, Result.andThen]
  refine hK' _ _ (hK _ _ hge ⟨by simp, .inr ⟨w.heap.size, Builtin.zeroCells z.cells n ++ Builtin.zeroCells z.cells (grownCap w n 0 e - n), rfl, rfl, ?_, Nat.zero_le _, hmx, ?_, by simp⟩⟩ ((Fr.refl _ w).drew.alloc _))
  · exact heap_alloc_new w.drew _
  · have hz : ∀ m, (Builtin.zeroCells z.cells m).size = m * i.size := fun m => by rw [← h6]; simp [Builtin.zeroCells]
    rw [Array.size_append, hz, hz, ← Nat.add_mul]
    congr 1
    omega
end Go
namespace Go.Proofs.YtakkljdeencfbaaDoor
open Go.RowKit



/-- The loop's guard against a length that outgrew an int does not strike: few rows, none long. -/
def lens : List (List Int) → Nat
  | [] => 0
  | r :: rs => r.length + lens rs
theorem lens_drop (rs : List (List Int)) (k : Nat) (h : k < rs.length) : lens (rs.drop k) = (nth rs k).length + lens (rs.drop (k + 1)) := by rw [drop_nth rs k h]; rfl

theorem lens_take (rs : List (List Int)) (k : Nat) : (rs.take k).flatten.length + lens (rs.drop k) = lens rs := by
  induction rs generalizing k with
  | nil => simp [lens]
  | cons r rs ih =>
    cases k with
    | zero => simp
    | succ k => have := ih k; simp only [List.take_succ_cons, List.flatten_cons, List.length_append, List.drop_succ_cons, lens] at *; omega


end Go.Proofs.YtakkljdeencfbaaDoor
