import Derived.Test.YtbmeeglehbaggaaGaoOwn
import Derived.Test.YtbmeeglehbaggaaRowA
import Derived.Test.YtbmeeglehbaggaaSmall
namespace Go.Proofs.Ytbmeeglehbaggaa
open Go.ChangeShapes Go.WideShapes Go.ChangeAt Go.RowKit

set_option maxRecDepth 100000 in
theorem gaoOwn_lifted (os : Os) (started : os.Started) (H : Type) (enc : TypeId × Value → H) :
    ReturnsInHanded {} Try.checked os 7 .any (Rows.gaoOwnSpec.pre6 enc Try.prog Try.f7 Rows.gaoOwnRow.domain false) (Rows.gaoOwnSpec.post enc Try.prog Try.f7 false true false false) := by
  refine law_lift (C := Try.checked) own laidOut (by kernel_rfl) Try.func7 rfl rfl Try.underlying4 (by kernel_rfl) os started H enc
    (ChangeSpec.witness6 (enc := enc) (C := Try.checked) false ⟨#[], #[.int .i64 0, .slice none 0 0, .int .i64 0, .int .i64 0], []⟩ 8 (by kernel_rfl) (by kernel_rfl) (by kernel_rfl) (by kernel_rfl)) ?_
  intro W base args ds p hval hA hlt hsz
  rw [Try.params7] at hA hval hsz
  obtain ⟨v0, vs0, d0, ds0, p0, q0, hargs, rfl, rfl, h0, r0⟩ := trodAll_cons hA
  obtain ⟨v1, vs1, d1, ds1, p1, q1, rfl, rfl, rfl, h1, r1⟩ := trodAll_cons r0
  obtain ⟨v2, vs2, d2, ds2, p2, q2, rfl, rfl, rfl, h2, r2⟩ := trodAll_cons r1
  obtain ⟨v3, vs3, d3, ds3, p3, q3, rfl, rfl, rfl, h3, r3⟩ := trodAll_cons r2
  obtain ⟨rfl, rfl, rfl⟩ := trodAll_nil r3
  obtain rfl : args = #[v0, v1, v2, v3] := by cases args; simp_all
  obtain ⟨x0, rfl, rfl, rfl, k0⟩ := open_int Try.underlying3 (hval 0 3 v0 rfl rfl) h0
  obtain ⟨a1, x1, c1, rfl, k1, j1, i1, n1, y1, s1⟩ := arg_links Try.underlying59 Try.underlying132 (by kernel_rfl) rfl rfl rfl Try.underlying3 Try.underlying3 Try.underlying3 cellsInt cellsInt cellsInt (hval 1 59 v1 rfl rfl) h1 (fun x hx => hlt x (by simp [hx]))
  obtain ⟨x2, rfl, rfl, rfl, k2⟩ := open_int Try.underlying3 (hval 2 3 v2 rfl rfl) h2
  obtain ⟨x3, rfl, rfl, rfl, k3⟩ := open_int Try.underlying3 (hval 3 3 v3 rfl rfl) h3
  refine ⟨?_, rfl, rfl, rfl⟩
  exact gaoOwn_any x0 x1 x2 x3 a1 c1 W k1 (by have := slice_small (k := 24) hsz (j := 1) rfl rfl Try.underlying59 (by kernel_rfl) j1 s1; omega) j1

theorem gaoOwn_over : Rows.gaoOwnRow.holds Try.pinned (OpenSpec.ofChange Rows.gaoOwnSpec) :=
  OpenClaim.holds_of_wide 7 Try.f7 rfl rfl rfl rfl rfl rfl rfl ⟨rfl, rfl, rfl, rfl, rfl⟩ rfl rfl rfl rfl rfl (by kernel_rfl) Try.func7 (by kernel_rfl)
    (of_decide_eq_true (by kernel_rfl)) (by unfold Func.isWrapper; first | (rw [if_pos (by decide +kernel)]; kernel_rfl) | (rw [if_neg (by decide +kernel)]; exact ⟨rfl, rfl⟩))
    (fun os started H enc _ => gaoOwn_lifted os started H enc)

theorem gaoOwn_holds : Rows.GaoOwnSaid := gaoOwn_over
end Go.Proofs.Ytbmeeglehbaggaa
