import Derived.Test.YtbmeeglehbaggaaNets
import Derived.Test.YtbmeeglehbaggaaHeaRec
namespace Go
open Go.ChangeShapes Go.WideShapes Go.ChangeAt Go.RowKit Go.Deep
section
variable {H : Type} {enc : TypeId × Value → H} {P : Program} {W : World}
def Hea.wf (x : Hea) : Prop := (Lit.int .i64 x.f).wf = true ∧ Nt.wf ⟨x.a, x.n⟩ ∧ (Lit.int .i64 x.m).wf = true
theorem open_hea {t : TypeId} {f0 f1 f2 g0 g1 : Field} (ht : P.underlying t = some (.struct #[f0, f1, f2])) (ct : P.cellsOf t = 4) (o0 : f0.offset = 0) (o1 : f1.offset = 1) (o2 : f2.offset = 3)
    (k0 : P.underlying f0.type = some (.int .i64)) (c0 : P.cellsOf f0.type = 1)
    (kn : P.underlying f1.type = some (.struct #[g0, g1])) (cn : P.cellsOf f1.type = 2) (p0 : g0.offset = 0) (p1 : g1.offset = 1) (j0 : P.underlying g0.type = some (.int .u32)) (j1 : P.underlying g1.type = some (.int .i64)) (b0 : P.cellsOf g0.type = 1) (b1 : P.cellsOf g1.type = 1)
    (k2 : P.underlying f2.type = some (.int .i64)) (c2 : P.cellsOf f2.type = 1) :
    ∀ fuel cs x, DataW.trod enc P W 0 (fun _ => true) true fuel t cs = some x → ∃ q : Hea, cs = Hea.cells q ∧ Hea.wf q := by
  intro fuel cs x h
  obtain ⟨y0, y1, y2, n', hx, hl, h0, h1, h2⟩ := trod_struct3 ht h
  rw [ct] at hl
  match cs, hl with
  | [v0, v1, v2, v3], _ =>
    simp [o0, o1, o2, c0, cn, c2] at h0 h1 h2
    obtain ⟨x0, q0, _, w0⟩ := DataW.trod_int k0 h0
    obtain ⟨q, hq, hqw⟩ := open_net kn cn p0 p1 j0 j1 b0 b1 _ _ _ h1
    obtain ⟨x2, q2, _, w2⟩ := DataW.trod_int k2 h2
    simp at q0 hq q2
    obtain ⟨rfl, rfl⟩ := hq
    subst q0
    subst q2
    exact ⟨⟨x0, q.a, q.n, x2⟩, rfl, w0, hqw, w2⟩
end
end Go
