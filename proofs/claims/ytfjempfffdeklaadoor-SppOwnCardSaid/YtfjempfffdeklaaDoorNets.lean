import Derived.Test.YtfjempfffdeklaaDoorErr
import Derived.Test.YtfjempfffdeklaaDoorArgRecs
namespace Go
open Go.ChangeShapes Go.WideShapes Go.ChangeAt Go.RowKit Go.Deep

section
variable {H : Type} {enc : TypeId × Value → H} {P : Program} {W : World}
/-- A net: its address, its length. -/
structure Nt where
  a : Int
  n : Int
deriving Inhabited, DecidableEq
abbrev Nt.cells (x : Nt) : List Value := [.int .u32 x.a, .int .i64 x.n]
theorem Nt.cells_len (x : Nt) : (Nt.cells x).length = 2 := rfl
def Nt.wf (x : Nt) : Prop := 0 ≤ x.a ∧ x.a < 4294967296 ∧ (Lit.int .i64 x.n).wf = true
theorem u32_wf {x : Int} (h : (Lit.int .u32 x).wf = true) : 0 ≤ x ∧ x < 4294967296 := by
  have h1 : IntKind.u32.min = 0 := rfl
  have h2 : IntKind.u32.max = 4294967295 := rfl
  simp only [Lit.wf, Bool.and_eq_true, decide_eq_true_eq] at h
  omega
theorem open_net {t : TypeId} {f0 f1 : Field} (ht : P.underlying t = some (.struct #[f0, f1])) (ct : P.cellsOf t = 2) (o0 : f0.offset = 0) (o1 : f1.offset = 1) (k0 : P.underlying f0.type = some (.int .u32)) (k1 : P.underlying f1.type = some (.int .i64)) (c0 : P.cellsOf f0.type = 1) (c1 : P.cellsOf f1.type = 1) :
    ∀ fuel cs x, DataW.trod enc P W 0 (fun _ => true) true fuel t cs = some x → ∃ q : Nt, cs = Nt.cells q ∧ Nt.wf q := by
  intro fuel cs x h
  obtain ⟨y0, y1, n', _, hl, g0, g1⟩ := trod_struct2 ht h
  rw [ct] at hl
  match cs, hl with
  | [v0, v1], _ =>
    simp [o0, o1, c0, c1] at g0 g1
    obtain ⟨x0, q0, _, w0⟩ := DataW.trod_int k0 g0
    obtain ⟨x1, q1, _, w1⟩ := DataW.trod_int k1 g1
    simp at q0 q1
    subst q0; subst q1
    obtain ⟨z0, z1⟩ := u32_wf w0
    exact ⟨⟨x0, x1⟩, rfl, z0, z1, w1⟩
end
end Go
namespace Go.Proofs.YtfjempfffdeklaaDoor
open Go.RowKit
theorem infoNt : (Tryd.prog.info? 37).map (fun i => (i.zero, i.size, i.bytes)) = some (some (.agg #[.int .u32 0, .int .i64 0]), 2, 16) := by kernel_rfl
theorem nt_one (x : Nt) : ∀ u ∈ Nt.cells x, u.oneCell' = true := by simp [Value.oneCell']
theorem cellsNt1 : Tryd.prog.cellsOf 35 = 1 := by kernel_rfl
theorem cellsNt2 : Tryd.prog.cellsOf 3 = 1 := by kernel_rfl
end Go.Proofs.YtfjempfffdeklaaDoor
