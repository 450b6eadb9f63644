import Derived.Test.YtfjempfffdeklaaDoorRecs
import Derived.Test.YtfjempfffdeklaaDoorRows
import Derived.Maps.OwnSet
import Derived.DeepKeys5
namespace Go
open Go.RowKit Go.Maps

/-- A pair of integers as a map's key. -/
def kl2 (x y : Int) : Lit := .string (keyBytes [.int .i64 x, .int .i64 y])
theorem key2_gen {P : Program} {t e : TypeId} (hk : P.keyType t = true) (hu : P.underlying t = some (.array 2 e)) (he : P.underlying e = some (.int .i64)) (ct : P.cellsOf t = 2) (ce : P.cellsOf e = 1) (hs : 0 < P.types.size)
    (x y : Int) (hx : (Lit.int .i64 x).wf = true) (hy : (Lit.int .i64 y).wf = true) : keyOf P t (.agg #[.int .i64 x, .int .i64 y]) = some (kl2 x y) := by
  obtain ⟨m, hm⟩ : ∃ m, P.types.size = m + 1 := ⟨P.types.size - 1, by omega⟩
  have h1 : ∀ z, (Lit.int .i64 z).wf = true → P.keyLits (m + 1) e [.int .i64 z] = some [.int .i64 z] := fun z hz => by
    simp only [Program.keyLits, he, hz, and_self, if_true]
  have hr : List.range 2 = [0, 1] := rfl
  have h2 : P.keyLits (m + 1 + 1) t [.int .i64 x, .int .i64 y] = some [.int .i64 x, .int .i64 y] := by
    unfold Program.keyLits
    simp only [hu, ct, ce, hr]
    simp [h1 x hx, h1 y hy]
  have hf : (Value.agg #[.int .i64 x, .int .i64 y]).formed P t = true := by simp [Value.formed, hu, ct]
  unfold keyOf
  simp only [hu, hk, hf, Bool.and_self, if_true, hm]
  have hc : (Value.agg #[.int .i64 x, .int .i64 y]).cells.toList = [.int .i64 x, .int .i64 y] := rfl
  rw [hc, h2]
  rfl
end Go
namespace Go.Proofs.YtfjempfffdeklaaDoor
open Go.RowKit Go.Maps

theorem laidOutG : laidOutB Tryd.prog = true := by kernel_rfl
theorem und2 : Tryd.prog.underlying 207 = some (.array 2 3) := by kernel_rfl
theorem key2 (x y : Int) (hx : (Lit.int .i64 x).wf = true) (hy : (Lit.int .i64 y).wf = true) : keyOf Tryd.prog 207 (.agg #[.int .i64 x, .int .i64 y]) = some (kl2 x y) :=
  key2_gen (by kernel_rfl) und2 Tryd.underlying3 (by kernel_rfl) (by kernel_rfl) (of_decide_eq_true (by kernel_rfl)) x y hx hy
theorem keyed2 : Keyed Tryd.prog 207 := Keyed.of_law (deep_law_laid laidOutG (m := Tryd.prog.types.size + 1) (of_decide_eq_true (by kernel_rfl)) (of_decide_eq_true (by kernel_rfl)) (by kernel_rfl) (by kernel_rfl))
theorem kl2_inj {x y x' y' : Int} (hx : (Lit.int .i64 x).wf = true) (hy : (Lit.int .i64 y).wf = true) (hx' : (Lit.int .i64 x').wf = true) (hy' : (Lit.int .i64 y').wf = true) (h : kl2 x y = kl2 x' y') : x = x' ∧ y = y' := by
  have := keyed2.inj (key2 x y hx hy) (by rw [h]; exact key2 x' y' hx' hy')
  simp at this
  exact this
end Go.Proofs.YtfjempfffdeklaaDoor
