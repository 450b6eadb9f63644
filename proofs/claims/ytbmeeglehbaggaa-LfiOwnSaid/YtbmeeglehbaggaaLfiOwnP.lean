import Derived.Test.YtbmeeglehbaggaaLfiOwn
import Derived.Test.YtbmeeglehbaggaaRowA
import Derived.Test.YtbmeeglehbaggaaSmall
namespace Go.Proofs.Ytbmeeglehbaggaa
open Go.ChangeShapes Go.WideShapes Go.ChangeAt Go.RowKit

set_option maxRecDepth 100000 in
theorem lfiOwn_lifted (os : Os) (started : os.Started) (H : Type) (enc : TypeId × Value → H) :
    ReturnsInHanded {} Try.checked os 5 .any (Rows.lfiOwnSpec.pre6 enc Try.prog Try.f5 Rows.lfiOwnRow.domain false) (Rows.lfiOwnSpec.post enc Try.prog Try.f5 false true false false) := by
  refine law_lift (C := Try.checked) own laidOut (by kernel_rfl) Try.func5 rfl rfl Try.underlying4 (by kernel_rfl) os started H enc
    (ChangeSpec.witness6 (enc := enc) (C := Try.checked) false ⟨#[], #[.int .i64 0, .slice none 0 0, .int .i64 0, .slice none 0 0, .slice none 0 0, .int .i64 0], []⟩ 8 (by kernel_rfl) (by kernel_rfl) (by kernel_rfl) (by kernel_rfl)) ?_
  intro W base args ds p hval hA hlt hsz
  rw [Try.params5] at hA hval hsz
  obtain ⟨v0, vs0, d0, ds0, p0, q0, hargs, rfl, rfl, h0, r0⟩ := trodAll_cons hA
  obtain ⟨v1, vs1, d1, ds1, p1, q1, rfl, rfl, rfl, h1, r1⟩ := trodAll_cons r0
  obtain ⟨v2, vs2, d2, ds2, p2, q2, rfl, rfl, rfl, h2, r2⟩ := trodAll_cons r1
  obtain ⟨v3, vs3, d3, ds3, p3, q3, rfl, rfl, rfl, h3, r3⟩ := trodAll_cons r2
  obtain ⟨v4, vs4, d4, ds4, p4, q4, rfl, rfl, rfl, h4, r4⟩ := trodAll_cons r3
  obtain ⟨v5, vs5, d5, ds5, p5, q5, rfl, rfl, rfl, h5, r5⟩ := trodAll_cons r4
  obtain ⟨rfl, rfl, rfl⟩ := trodAll_nil r5
  obtain rfl : args = #[v0, v1, v2, v3, v4, v5] := by cases args; simp_all
  obtain ⟨x0, rfl, rfl, rfl, k0⟩ := open_int Try.underlying3 (hval 0 3 v0 rfl rfl) h0
  obtain ⟨a1, x1, c1, rfl, k1, j1, i1, n1, y1, s1⟩ := arg_links Try.underlying45 Try.underlying128 (by kernel_rfl) rfl rfl rfl Try.underlying3 Try.underlying3 Try.underlying3 cellsInt cellsInt cellsInt (hval 1 45 v1 rfl rfl) h1 (fun x hx => hlt x (by simp [hx]))
  obtain ⟨x2, rfl, rfl, rfl, k2⟩ := open_int Try.underlying3 (hval 2 3 v2 rfl rfl) h2
  obtain ⟨a3, x3, c3, rfl, k3, j3, i3, n3, y3, s3⟩ := arg_ints Try.underlying22 Try.underlying3 cellsInt (hval 3 22 v3 rfl rfl) h3 (fun x hx => hlt x (by simp [hx]))
  obtain ⟨a4, x4, c4, rfl, k4, j4, i4, n4, y4, s4⟩ := arg_ints Try.underlying22 Try.underlying3 cellsInt (hval 4 22 v4 rfl rfl) h4 (fun x hx => hlt x (by simp [hx]))
  obtain ⟨x5, rfl, rfl, rfl, k5⟩ := open_int Try.underlying3 (hval 5 3 v5 rfl rfl) h5
  refine ⟨?_, rfl, rfl, rfl⟩
  exact lfiOwn_any x0 x1 x2 x3 x4 x5 a1 a3 a4 c1 c3 c4 W k1 (by have := slice_small (k := 24) hsz (j := 1) rfl rfl Try.underlying45 (by kernel_rfl) j1 s1; omega) n1 k3 k4 (by have := slice_small (k := 8) hsz (j := 3) rfl rfl Try.underlying22 (by kernel_rfl) j3 s3; omega)

theorem lfiOwn_over : Rows.lfiOwnRow.holds Try.pinned (OpenSpec.ofChange Rows.lfiOwnSpec) :=
  OpenClaim.holds_of_wide 5 Try.f5 rfl rfl rfl rfl rfl rfl rfl ⟨rfl, rfl, rfl, rfl, rfl⟩ rfl rfl rfl rfl rfl (by kernel_rfl) Try.func5 (by kernel_rfl)
    (of_decide_eq_true (by kernel_rfl)) (by unfold Func.isWrapper; first | (rw [if_pos (by decide +kernel)]; kernel_rfl) | (rw [if_neg (by decide +kernel)]; exact ⟨rfl, rfl⟩))
    (fun os started H enc _ => lfiOwn_lifted os started H enc)

theorem lfiOwn_holds : Rows.LfiOwnSaid := lfiOwn_over
end Go.Proofs.Ytbmeeglehbaggaa
