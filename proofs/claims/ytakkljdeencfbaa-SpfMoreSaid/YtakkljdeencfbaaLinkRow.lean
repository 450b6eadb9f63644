import Derived.Test.YtakkljdeencfbaaGraph
namespace Go
open Go.ChangeShapes Go.WideShapes Go.ChangeAt Go.RowKit Go.Deep

section
variable {H : Type} {enc : TypeId × Value → H} {P : Program} {W : World}
/-- A record by value, opened. -/
theorem arg_rec {α : Type} {f : α → List Value} {wf : α → Prop} {t : TypeId} {fs : Array Field} {r : Reach} {base : Nat} {v : Value} {d : DataW H} {p : List MemPlace} (ht : P.underlying t = some (.struct fs))
    (open1 : ∀ fuel cs x, DataW.trod enc P W 0 (fun _ => true) true fuel t cs = some x → ∃ q, cs = f q ∧ wf q)
    (hv : Value.okWide P W r base t v) (h : DataW.Trod enc P W 0 (fun _ => true) true t v d p) : ∃ q, v = .agg (f q).toArray ∧ wf q := by
  obtain ⟨cs, rfl, hsz⟩ := okWide_struct ht hv
  obtain ⟨fuel, hf⟩ := h
  obtain ⟨q, hq, hw⟩ := open1 _ _ _ hf
  refine ⟨q, ?_, hw⟩
  have : cs = (f q).toArray := by
    apply Array.ext'
    simpa [Value.cells] using hq
  rw [this]

def Lk.wf (x : Lk) : Prop := (Lit.int .i64 x.a).wf = true ∧ (Lit.int .i64 x.b).wf = true ∧ (Lit.int .i64 x.c).wf = true
theorem open_link {t : TypeId} {f0 f1 f2 : Field} (ht : P.underlying t = some (.struct #[f0, f1, f2])) (ct : P.cellsOf t = 3) (o0 : f0.offset = 0) (o1 : f1.offset = 1) (o2 : f2.offset = 2) (k0 : P.underlying f0.type = some (.int .i64)) (k1 : P.underlying f1.type = some (.int .i64)) (k2 : P.underlying f2.type = some (.int .i64)) (c0 : P.cellsOf f0.type = 1) (c1 : P.cellsOf f1.type = 1) (c2 : P.cellsOf f2.type = 1) :
    ∀ fuel cs x, DataW.trod enc P W 0 (fun _ => true) true fuel t cs = some x → ∃ q : Lk, cs = Lk.cells q ∧ Lk.wf q := by
  intro fuel cs x h
  obtain ⟨y0, y1, y2, n', _, hl, g0, g1, g2⟩ := trod_struct3 ht h
  rw [ct] at hl
  match cs, hl with
  | [v0, v1, v2], _ =>
    simp [o0, o1, o2, c0, c1, c2] at g0 g1 g2
    obtain ⟨x0, q0, _, w0⟩ := DataW.trod_int k0 g0
    obtain ⟨x1, q1, _, w1⟩ := DataW.trod_int k1 g1
    obtain ⟨x2, q2, _, w2⟩ := DataW.trod_int k2 g2
    simp at q0 q1 q2
    subst q0; subst q1; subst q2
    exact ⟨⟨x0, x1, x2⟩, rfl, w0, w1, w2⟩
end
end Go
