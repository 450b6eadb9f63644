import Derived.Test.YtoenopfmlgapbaaRibLast
import Derived.Test.YtoenopfmlgapbaaNets
import Derived.Test.YtoenopfmlgapbaaRowA
namespace Go.Proofs.Ytoenopfmlgapbaa
open Go.ChangeShapes Go.WideShapes Go.ChangeAt Go.RowKit

set_option maxRecDepth 100000 in
theorem ribLast_lifted (os : Os) (started : os.Started) (H : Type) (enc : TypeId × Value → H) :
    ReturnsInHanded {} Try.checked os 3 .any (Rows.ribLastSpec.pre6 enc Try.prog Try.f3 Rows.ribLastRow.domain false) (Rows.ribLastSpec.post enc Try.prog Try.f3 false true false false) := by
  refine law_lift (C := Try.checked) own laidOut (by kernel_rfl) Try.func3 rfl rfl Try.underlying4 (by kernel_rfl) os started H enc
    (ChangeSpec.witness6 (enc := enc) (C := Try.checked) false ⟨#[], #[.int .i64 0, .agg #[.int .u32 0, .int .i64 0], .slice none 0 0], []⟩ 8 (by kernel_rfl) (by kernel_rfl) (by kernel_rfl) (by kernel_rfl)) ?_
  intro W base args ds p hval hA hlt hsz
  rw [Try.params3] at hA hval hsz
  obtain ⟨v0, vs0, d0, ds0, p0, q0, hargs, rfl, rfl, h0, r0⟩ := trodAll_cons hA
  obtain ⟨v1, vs1, d1, ds1, p1, q1, rfl, rfl, rfl, h1, r1⟩ := trodAll_cons r0
  obtain ⟨v2, vs2, d2, ds2, p2, q2, rfl, rfl, rfl, h2, r2⟩ := trodAll_cons r1
  obtain ⟨rfl, rfl, rfl⟩ := trodAll_nil r2
  obtain rfl : args = #[v0, v1, v2] := by cases args; simp_all
  obtain ⟨x0, rfl, rfl, rfl, k0⟩ := open_int Try.underlying3 (hval 0 3 v0 rfl rfl) h0
  obtain ⟨x1, rfl, n1⟩ := arg_rec Try.underlying24 (open_net Try.underlying24 (by kernel_rfl) rfl rfl Try.underlying22 Try.underlying3 cellsNt1 cellsNt2) (hval 1 24 v1 rfl rfl) h1
  obtain ⟨a2, x2, c2, rfl, k2, j2, i2, n2, y2, s2⟩ := arg_ints Try.underlying25 Try.underlying3 cellsInt (hval 2 25 v2 rfl rfl) h2 (fun x hx => hlt x (by simp [hx]))
  refine ⟨?_, rfl, rfl, rfl⟩
  have hmx : maxLen = 9223372036854775807 := rfl
  exact ribLast_any x0 x1.a x1.n x2 a2 c2 W ⟨n1.1, n1.2.1⟩ k2 (by omega)

theorem ribLast_over : Rows.ribLastRow.holds Try.pinned (OpenSpec.ofChange Rows.ribLastSpec) :=
  OpenClaim.holds_of_wide 3 Try.f3 rfl rfl rfl rfl rfl rfl rfl ⟨rfl, rfl, rfl, rfl, rfl⟩ rfl rfl rfl rfl rfl (by kernel_rfl) Try.func3 (by kernel_rfl)
    (of_decide_eq_true (by kernel_rfl)) (by unfold Func.isWrapper; first | (rw [if_pos (by decide +kernel)]; kernel_rfl) | (rw [if_neg (by decide +kernel)]; exact ⟨rfl, rfl⟩))
    (fun os started H enc _ => ribLast_lifted os started H enc)

theorem ribLast_holds : Rows.RibLastSaid := ribLast_over
end Go.Proofs.Ytoenopfmlgapbaa
