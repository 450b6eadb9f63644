import Derived.Test.YtfjempfffdeklaaBestDirty
import Derived.Test.YtfjempfffdeklaaRowA
import Derived.Test.YtfjempfffdeklaaSmall
namespace Go.Proofs.Ytfjempfffdeklaa
open Go.ChangeShapes Go.WideShapes Go.ChangeAt Go.RowKit

set_option maxRecDepth 100000 in
theorem bestDirty_lifted (os : Os) (started : os.Started) (H : Type) (enc : TypeId × Value → H) :
    ReturnsInHanded {} Try.checked os 3 .any (Rows.bestDirtySpec.pre6 enc Try.prog Try.f3 Rows.bestDirtyRow.domain false) (Rows.bestDirtySpec.post enc Try.prog Try.f3 false true false false) := by
  refine law_lift (C := Try.checked) own laidOut (by kernel_rfl) Try.func3 rfl rfl Try.underlying4 (by kernel_rfl) os started H enc
    (ChangeSpec.witness6 (enc := enc) (C := Try.checked) false ⟨#[], #[.slice none 0 0, .slice none 0 0, .slice none 0 0], []⟩ 8 (by kernel_rfl) (by kernel_rfl) (by kernel_rfl) (by kernel_rfl)) ?_
  intro W base args ds p hval hA hlt hsz
  rw [Try.params3] at hA hval hsz
  obtain ⟨v0, vs0, d0, ds0, p0, q0, hargs, rfl, rfl, h0, r0⟩ := trodAll_cons hA
  obtain ⟨v1, vs1, d1, ds1, p1, q1, rfl, rfl, rfl, h1, r1⟩ := trodAll_cons r0
  obtain ⟨v2, vs2, d2, ds2, p2, q2, rfl, rfl, rfl, h2, r2⟩ := trodAll_cons r1
  obtain ⟨rfl, rfl, rfl⟩ := trodAll_nil r2
  obtain rfl : args = #[v0, v1, v2] := by cases args; simp_all
  obtain ⟨a0, x0, c0, rfl, k0, j0, i0, n0, y0, s0⟩ := arg_ints Try.underlying22 Try.underlying3 cellsInt (hval 0 22 v0 rfl rfl) h0 (fun x hx => hlt x (by simp [hx]))
  obtain ⟨a1, x1, c1, rfl, k1, j1, i1, n1, y1, s1⟩ := arg_recs (by decide) Hea.cells_len Try.underlying23 (by kernel_rfl) (open_hea Try.underlying35 (by kernel_rfl) rfl rfl rfl Try.underlying3 cellsNt2 Try.underlying33 (by kernel_rfl) rfl rfl Try.underlying31 Try.underlying3 cellsNt1 cellsNt2 Try.underlying3 cellsNt2) (hval 1 23 v1 rfl rfl) h1 (fun x hx => hlt x (by simp [hx]))
  obtain ⟨a2, x2, c2, rfl, k2, j2, i2, n2, y2, s2⟩ := arg_recs (by decide) Hea.cells_len Try.underlying23 (by kernel_rfl) (open_hea Try.underlying35 (by kernel_rfl) rfl rfl rfl Try.underlying3 cellsNt2 Try.underlying33 (by kernel_rfl) rfl rfl Try.underlying31 Try.underlying3 cellsNt1 cellsNt2 Try.underlying3 cellsNt2) (hval 2 23 v2 rfl rfl) h2 (fun x hx => hlt x (by simp [hx]))
  refine ⟨?_, rfl, rfl, rfl⟩
  exact bestDirty_any x0 a0 c0 x1 a1 c1 x2 a2 c2 W k1 n1 (by have := slice_small (k := 32) hsz (j := 1) rfl rfl Try.underlying23 (by kernel_rfl) j1 s1; omega) k2 n2 (by have := slice_small (k := 32) hsz (j := 2) rfl rfl Try.underlying23 (by kernel_rfl) j2 s2; omega) k0 (by have := slice_small (k := 8) hsz (j := 0) rfl rfl Try.underlying22 (by kernel_rfl) j0 s0; omega)

theorem bestDirty_over : Rows.bestDirtyRow.holds Try.pinned (OpenSpec.ofChange Rows.bestDirtySpec) :=
  OpenClaim.holds_of_wide 3 Try.f3 rfl rfl rfl rfl rfl rfl rfl ⟨rfl, rfl, rfl, rfl, rfl⟩ rfl rfl rfl rfl rfl (by kernel_rfl) Try.func3 (by kernel_rfl)
    (of_decide_eq_true (by kernel_rfl)) (by unfold Func.isWrapper; first | (rw [if_pos (by decide +kernel)]; kernel_rfl) | (rw [if_neg (by decide +kernel)]; exact ⟨rfl, rfl⟩))
    (fun os started H enc _ => bestDirty_lifted os started H enc)

theorem bestDirty_holds : Rows.BestDirtySaid := bestDirty_over
end Go.Proofs.Ytfjempfffdeklaa
