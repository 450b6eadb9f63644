import Derived.Test.YtbmeeglehbaggaaBestLeast
import Derived.Test.YtbmeeglehbaggaaRowA
import Derived.Test.YtbmeeglehbaggaaSmall
namespace Go.Proofs.Ytbmeeglehbaggaa
open Go.ChangeShapes Go.WideShapes Go.ChangeAt Go.RowKit

set_option maxRecDepth 100000 in
theorem bestLeast_lifted (os : Os) (started : os.Started) (H : Type) (enc : TypeId × Value → H) :
    ReturnsInHanded {} Try.checked os 3 .any (Rows.bestLeastSpec.pre6 enc Try.prog Try.f3 Rows.bestLeastRow.domain false) (Rows.bestLeastSpec.post enc Try.prog Try.f3 false true false false) := by
  refine law_lift (C := Try.checked) own laidOut (by kernel_rfl) Try.func3 rfl rfl Try.underlying4 (by kernel_rfl) os started H enc
    (ChangeSpec.witness6 (enc := enc) (C := Try.checked) false ⟨#[], #[.slice none 0 0, .slice none 0 0, .agg #[.int .u32 0, .int .i64 0], .int .i64 0], []⟩ 8 (by kernel_rfl) (by kernel_rfl) (by kernel_rfl) (by kernel_rfl)) ?_
  intro W base args ds p hval hA hlt hsz
  rw [Try.params3] at hA hval hsz
  obtain ⟨v0, vs0, d0, ds0, p0, q0, hargs, rfl, rfl, h0, r0⟩ := trodAll_cons hA
  obtain ⟨v1, vs1, d1, ds1, p1, q1, rfl, rfl, rfl, h1, r1⟩ := trodAll_cons r0
  obtain ⟨v2, vs2, d2, ds2, p2, q2, rfl, rfl, rfl, h2, r2⟩ := trodAll_cons r1
  obtain ⟨v3, vs3, d3, ds3, p3, q3, rfl, rfl, rfl, h3, r3⟩ := trodAll_cons r2
  obtain ⟨rfl, rfl, rfl⟩ := trodAll_nil r3
  obtain rfl : args = #[v0, v1, v2, v3] := by cases args; simp_all
  obtain ⟨a0, x0, c0, rfl, k0, j0, i0, n0, y0, s0⟩ := arg_ints Try.underlying22 Try.underlying3 cellsInt (hval 0 22 v0 rfl rfl) h0 (fun x hx => hlt x (by simp [hx]))
  obtain ⟨a1, x1, c1, rfl, k1, j1, i1, n1, y1, s1⟩ := arg_recs (by decide) Hea.cells_len Try.underlying23 (by kernel_rfl) (open_hea Try.underlying77 (by kernel_rfl) rfl rfl rfl Try.underlying3 cellsNt2 Try.underlying26 (by kernel_rfl) rfl rfl Try.underlying24 Try.underlying3 cellsNt1 cellsNt2 Try.underlying3 cellsNt2) (hval 1 23 v1 rfl rfl) h1 (fun x hx => hlt x (by simp [hx]))
  obtain ⟨x2, rfl, n2⟩ := arg_rec Try.underlying26 (open_net Try.underlying26 (by kernel_rfl) rfl rfl Try.underlying24 Try.underlying3 cellsNt1 cellsNt2) (hval 2 26 v2 rfl rfl) h2
  obtain ⟨x3, rfl, rfl, rfl, k3⟩ := open_int Try.underlying3 (hval 3 3 v3 rfl rfl) h3
  refine ⟨?_, rfl, rfl, rfl⟩
  exact bestLeast_any x0 a0 c0 x1 a1 c1 x2.a x2.n x3 W k1 n1 (by have := slice_small (k := 32) hsz (j := 1) rfl rfl Try.underlying23 (by kernel_rfl) j1 s1; omega) k0 (by have := slice_small (k := 8) hsz (j := 0) rfl rfl Try.underlying22 (by kernel_rfl) j0 s0; omega) ⟨n2.1, n2.2.1⟩

theorem bestLeast_over : Rows.bestLeastRow.holds Try.pinned (OpenSpec.ofChange Rows.bestLeastSpec) :=
  OpenClaim.holds_of_wide 3 Try.f3 rfl rfl rfl rfl rfl rfl rfl ⟨rfl, rfl, rfl, rfl, rfl⟩ rfl rfl rfl rfl rfl (by kernel_rfl) Try.func3 (by kernel_rfl)
    (of_decide_eq_true (by kernel_rfl)) (by unfold Func.isWrapper; first | (rw [if_pos (by decide +kernel)]; kernel_rfl) | (rw [if_neg (by decide +kernel)]; exact ⟨rfl, rfl⟩))
    (fun os started H enc _ => bestLeast_lifted os started H enc)

theorem bestLeast_holds : Rows.BestLeastSaid := bestLeast_over
end Go.Proofs.Ytbmeeglehbaggaa
