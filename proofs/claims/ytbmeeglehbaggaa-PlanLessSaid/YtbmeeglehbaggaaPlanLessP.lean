import Derived.Test.YtbmeeglehbaggaaPlanLess
import Derived.Test.YtbmeeglehbaggaaRowA
import Derived.Test.YtbmeeglehbaggaaNets
namespace Go.Proofs.Ytbmeeglehbaggaa
theorem i64_bd {x : Int} (h : (Lit.int .i64 x).wf = true) : -9223372036854775808 ≤ x ∧ x ≤ 9223372036854775807 := by
  have e1 : IntKind.i64.min = -9223372036854775808 := rfl
  have e2 : IntKind.i64.max = 9223372036854775807 := rfl
  simp only [Lit.wf, Bool.and_eq_true, decide_eq_true_eq] at h
  omega
open Go.ChangeShapes Go.WideShapes Go.ChangeAt Go.RowKit

set_option maxRecDepth 100000 in
theorem planLess_lifted (os : Os) (started : os.Started) (H : Type) (enc : TypeId × Value → H) :
    ReturnsInHanded {} Try.checked os 8 .any (Rows.planLessSpec.pre6 enc Try.prog Try.f8 Rows.planLessRow.domain false) (Rows.planLessSpec.post enc Try.prog Try.f8 false true false false) := by
  refine law_lift (C := Try.checked) own laidOut (by kernel_rfl) Try.func8 rfl rfl Try.underlying4 (by kernel_rfl) os started H enc
    (ChangeSpec.witness6 (enc := enc) (C := Try.checked) false ⟨#[], #[.agg #[.int .u32 0, .int .i64 0], .slice none 0 0, .int .i64 0, .int .i64 0], []⟩ 8 (by kernel_rfl) (by kernel_rfl) (by kernel_rfl) (by kernel_rfl)) ?_
  intro W base args ds p hval hA hlt hsz
  rw [Try.params8] at hA hval hsz
  obtain ⟨v0, vs0, d0, ds0, p0, q0, hargs, rfl, rfl, h0, r0⟩ := trodAll_cons hA
  obtain ⟨v1, vs1, d1, ds1, p1, q1, rfl, rfl, rfl, h1, r1⟩ := trodAll_cons r0
  obtain ⟨v2, vs2, d2, ds2, p2, q2, rfl, rfl, rfl, h2, r2⟩ := trodAll_cons r1
  obtain ⟨v3, vs3, d3, ds3, p3, q3, rfl, rfl, rfl, h3, r3⟩ := trodAll_cons r2
  obtain ⟨rfl, rfl, rfl⟩ := trodAll_nil r3
  obtain rfl : args = #[v0, v1, v2, v3] := by cases args; simp_all
  obtain ⟨x0, rfl, n0⟩ := arg_rec Try.underlying26 (open_net Try.underlying26 (by kernel_rfl) rfl rfl Try.underlying24 Try.underlying3 cellsNt1 cellsNt2) (hval 0 26 v0 rfl rfl) h0
  obtain ⟨a1, x1, c1, rfl, k1, j1, i1, n1, y1, s1⟩ := arg_ints Try.underlying22 Try.underlying3 cellsInt (hval 1 22 v1 rfl rfl) h1 (fun x hx => hlt x (by simp [hx]))
  obtain ⟨x2, rfl, rfl, rfl, k2⟩ := open_int Try.underlying3 (hval 2 3 v2 rfl rfl) h2
  obtain ⟨x3, rfl, rfl, rfl, k3⟩ := open_int Try.underlying3 (hval 3 3 v3 rfl rfl) h3
  refine ⟨?_, rfl, rfl, rfl⟩
  obtain ⟨xa0, xn0⟩ := x0
  have hmx : maxLen = 9223372036854775807 := rfl
  exact planLess_any xa0 xn0 x1 a1 c1 x2 x3 W ⟨n0.1, n0.2.1⟩ k1 (by omega) j1 (i64_bd k2)

theorem planLess_over : Rows.planLessRow.holds Try.pinned (OpenSpec.ofChange Rows.planLessSpec) :=
  OpenClaim.holds_of_wide 8 Try.f8 rfl rfl rfl rfl rfl rfl rfl ⟨rfl, rfl, rfl, rfl, rfl⟩ rfl rfl rfl rfl rfl (by kernel_rfl) Try.func8 (by kernel_rfl)
    (of_decide_eq_true (by kernel_rfl)) (by unfold Func.isWrapper; first | (rw [if_pos (by decide +kernel)]; kernel_rfl) | (rw [if_neg (by decide +kernel)]; exact ⟨rfl, rfl⟩))
    (fun os started H enc _ => planLess_lifted os started H enc)

theorem planLess_holds : Rows.PlanLessSaid := planLess_over
end Go.Proofs.Ytbmeeglehbaggaa
