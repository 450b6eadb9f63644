import Derived.Test.YtgfbkebbnfcgkaaQRt1
import Derived.Test.YtgfbkebbnfcgkaaQRt4
import Derived.DeepKeys5
section
namespace Go
open Go.RowKit Go.Maps

/-- A net as a map's key. -/
def kln (x : Nt) : Lit := .string (keyBytes [.int .u32 x.a, .int .i64 x.n])
theorem wf_u32 {x : Int} (h0 : 0 ≤ x) (h1 : x < 4294967296) : (Lit.int .u32 x).wf = true := by
  have a1 : IntKind.u32.min = 0 := rfl
  have a2 : IntKind.u32.max = 4294967295 := rfl
  simp only [Lit.wf, Bool.and_eq_true, decide_eq_true_eq]
  omega
theorem nkey_gen {P : Program} {t : TypeId} {f0 f1 : Field} (hk : P.keyType t = true) (hu : P.underlying t = some (.struct #[f0, f1])) (hb : (#[f0, f1] : Array Field).all (·.name != "_") = true) (o0 : f0.offset = 0) (o1 : f1.offset = 1) (k0 : P.underlying f0.type = some (.int .u32)) (k1 : P.underlying f1.type = some (.int .i64))
    (ct : P.cellsOf t = 2) (c0 : P.cellsOf f0.type = 1) (c1 : P.cellsOf f1.type = 1) (hs : 0 < P.types.size) (x : Nt) (hx : Nt.wf x) : keyOf P t (.agg #[.int .u32 x.a, .int .i64 x.n]) = some (kln x) := by
  obtain ⟨m, hm⟩ : ∃ m, P.types.size = m + 1 := ⟨P.types.size - 1, by omega⟩
  have g0 : P.keyLits (m + 1) f0.type [.int .u32 x.a] = some [.int .u32 x.a] := by
    simp only [Program.keyLits, k0, wf_u32 hx.1 hx.2.1, and_self, if_true]
  have g1 : P.keyLits (m + 1) f1.type [.int .i64 x.n] = some [.int .i64 x.n] := by
    simp only [Program.keyLits, k1, hx.2.2, and_self, if_true]
  have h2 : P.keyLits (m + 1 + 1) t [.int .u32 x.a, .int .i64 x.n] = some [.int .u32 x.a, .int .i64 x.n] := by
    unfold Program.keyLits
    simp only [hu]
    rw [if_pos ⟨by simp [ct], hb⟩]
    simp [o0, o1, c0, c1, g0, g1]
  have hf : (Value.agg #[.int .u32 x.a, .int .i64 x.n]).formed P t = true := by simp [Value.formed, hu, ct]
  unfold keyOf
  simp only [hu, hk, hf, Bool.and_self, if_true, hm]
  have hc : (Value.agg #[.int .u32 x.a, .int .i64 x.n]).cells.toList = [.int .u32 x.a, .int .i64 x.n] := rfl
  rw [hc, h2]
  rfl
end Go
namespace Go.Proofs.Ytgfbkebbnfcgkaa
open Go.RowKit Go.Maps
theorem laidOutN : laidOutB Try.prog = true := by kernel_rfl
theorem nkey (x : Nt) (hx : Nt.wf x) : keyOf Try.prog 34 (.agg #[.int .u32 x.a, .int .i64 x.n]) = some (kln x) :=
  nkey_gen (by kernel_rfl) Try.underlying34 (by kernel_rfl) rfl rfl Try.underlying32 Try.underlying3 (by kernel_rfl) cellsNt1 cellsNt2 (of_decide_eq_true (by kernel_rfl)) x hx
theorem keyedN : Keyed Try.prog 34 := Keyed.of_law (deep_law_laid laidOutN (m := Try.prog.types.size + 1) (of_decide_eq_true (by kernel_rfl)) (of_decide_eq_true (by kernel_rfl)) (by kernel_rfl) (by kernel_rfl))
theorem kln_inj {x y : Nt} (hx : Nt.wf x) (hy : Nt.wf y) (h : kln x = kln y) : x = y := by
  have := keyedN.inj (nkey x hx) (by rw [h]; exact nkey y hy)
  obtain ⟨xa, xn⟩ := x
  obtain ⟨ya, yn⟩ := y
  simp at this
  rw [this.1, this.2]
end Go.Proofs.Ytgfbkebbnfcgkaa
end
