import Derived.Test.YtbmeeglehbaggaaCoverOwn
import Derived.Test.YtbmeeglehbaggaaRowA
import Derived.Test.YtbmeeglehbaggaaNets
import Derived.Test.YtbmeeglehbaggaaSmall
namespace Go.Proofs.Ytbmeeglehbaggaa
open Go.ChangeShapes Go.WideShapes Go.ChangeAt Go.RowKit

set_option maxRecDepth 100000 in
theorem coverOwn_lifted (os : Os) (started : os.Started) (H : Type) (enc : TypeId × Value → H) :
    ReturnsInHanded {} Try.checked os 9 .any (Rows.coverOwnSpec.pre6 enc Try.prog Try.f9 Rows.coverOwnRow.domain false) (Rows.coverOwnSpec.post enc Try.prog Try.f9 false true false false) := by
  refine law_lift (C := Try.checked) own laidOut (by kernel_rfl) Try.func9 rfl rfl Try.underlying4 (by kernel_rfl) os started H enc
    (ChangeSpec.witness6 (enc := enc) (C := Try.checked) false ⟨#[], #[.slice none 0 0, .int .i64 0], []⟩ 8 (by kernel_rfl) (by kernel_rfl) (by kernel_rfl) (by kernel_rfl)) ?_
  intro W base args ds p hval hA hlt hsz
  rw [Try.params9] at hA hval hsz
  obtain ⟨v0, vs0, d0, ds0, p0, q0, hargs, rfl, rfl, h0, r0⟩ := trodAll_cons hA
  obtain ⟨v1, vs1, d1, ds1, p1, q1, rfl, rfl, rfl, h1, r1⟩ := trodAll_cons r0
  obtain ⟨rfl, rfl, rfl⟩ := trodAll_nil r1
  obtain rfl : args = #[v0, v1] := by cases args; simp_all
  obtain ⟨a0, x0, c0, rfl, k0, j0, i0, n0, y0, s0⟩ := arg_recs (by decide) Nt.cells_len Try.underlying36 (by kernel_rfl) (open_net Try.underlying26 (by kernel_rfl) rfl rfl Try.underlying24 Try.underlying3 cellsNt1 cellsNt2) (hval 0 36 v0 rfl rfl) h0 (fun x hx => hlt x (by simp [hx]))
  obtain ⟨x1, rfl, rfl, rfl, k1⟩ := open_int Try.underlying3 (hval 1 3 v1 rfl rfl) h1
  refine ⟨?_, rfl, rfl, rfl⟩
  exact coverOwn_any x0 a0 c0 x1 W k0 (fun y hy => ⟨(n0 y hy).1, (n0 y hy).2.1⟩) (by have := slice_small (k := 16) hsz (j := 0) rfl rfl Try.underlying36 (by kernel_rfl) j0 s0; omega)

theorem coverOwn_over : Rows.coverOwnRow.holds Try.pinned (OpenSpec.ofChange Rows.coverOwnSpec) :=
  OpenClaim.holds_of_wide 9 Try.f9 rfl rfl rfl rfl rfl rfl rfl ⟨rfl, rfl, rfl, rfl, rfl⟩ rfl rfl rfl rfl rfl (by kernel_rfl) Try.func9 (by kernel_rfl)
    (of_decide_eq_true (by kernel_rfl)) (by unfold Func.isWrapper; first | (rw [if_pos (by decide +kernel)]; kernel_rfl) | (rw [if_neg (by decide +kernel)]; exact ⟨rfl, rfl⟩))
    (fun os started H enc _ => coverOwn_lifted os started H enc)

theorem coverOwn_holds : Rows.CoverOwnSaid := coverOwn_over
end Go.Proofs.Ytbmeeglehbaggaa
