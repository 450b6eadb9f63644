import Derived.Test.YtakkljdeencfbaaWays
import Derived.Test.YtakkljdeencfbaaRowA
namespace Go.Proofs.Ytakkljdeencfbaa
open Go.ChangeShapes Go.WideShapes Go.ChangeAt Go.RowKit

set_option maxRecDepth 100000 in
theorem waysJoin_lifted (os : Os) (started : os.Started) (H : Type) (enc : TypeId × Value → H) (F : Stop.Interp) :
    ReturnsInHanded {} Try.checked os 3 .any ((Rows.OpenSpec.upto Rows.waysJoinSpec).pre6 enc Try.prog Try.f3 Rows.waysJoinUptoRow.domain false) (((Rows.OpenSpec.upto Rows.waysJoinSpec).at F).post enc Try.prog Try.f3 false true false false) := by
  refine law_lift_cond (C := Try.checked) (k := Rows.uptoSmall) own laidOut (by kernel_rfl) Try.func3 rfl rfl Try.underlying4 (by kernel_rfl) os started H enc F
    (OpenSpec.witness (enc := enc) (C := Try.checked) (s := Rows.OpenSpec.upto Rows.waysJoinSpec) (k := Rows.uptoSmall) rfl false ⟨#[], #[.int .i64 0, .slice none 0 0, .slice none 0 0, .slice none 0 0], []⟩ 8 (by kernel_rfl) (by kernel_rfl) (by kernel_rfl) (x := ([.lit (.int .i64 0), .nil, .nil, .nil], [], [])) (by kernel_rfl) rfl (by kernel_rfl)) ?_
  intro W base args ds p hval hA hlt hsz hk
  have hb := small_all hk
  rw [Try.params3] at hA hval hsz
  obtain ⟨v0, vs0, d0, ds0, p0, q0, hargs, rfl, rfl, h0, r0⟩ := trodAll_cons hA
  obtain ⟨v1, vs1, d1, ds1, p1, q1, rfl, rfl, rfl, h1, r1⟩ := trodAll_cons r0
  obtain ⟨v2, vs2, d2, ds2, p2, q2, rfl, rfl, rfl, h2, r2⟩ := trodAll_cons r1
  obtain ⟨v3, vs3, d3, ds3, p3, q3, rfl, rfl, rfl, h3, r3⟩ := trodAll_cons r2
  obtain ⟨rfl, rfl, rfl⟩ := trodAll_nil r3
  obtain rfl : args = #[v0, v1, v2, v3] := by cases args; simp_all
  simp only [Rows.uptoBulkAll] at hb
  obtain ⟨x0, rfl, rfl, rfl, k0⟩ := open_int Try.underlying3 (hval 0 3 v0 rfl rfl) h0
  obtain ⟨a1, x1, c1, rfl, k1, j1, i1, n1, y1, s1⟩ := arg_links Try.underlying22 Try.underlying29 (by kernel_rfl) rfl rfl rfl Try.underlying3 Try.underlying3 Try.underlying3 cellsInt cellsInt cellsInt (hval 1 22 v1 rfl rfl) h1 (fun x hx => hlt x (by simp [hx]))
  obtain ⟨a2, x2, c2, rfl, k2, j2, i2, n2, y2, s2⟩ := arg_ints Try.underlying23 Try.underlying3 cellsInt (hval 2 23 v2 rfl rfl) h2 (fun x hx => hlt x (by simp [hx]))
  obtain ⟨a3, x3, c3, rfl, k3, j3, i3, n3, y3, s3⟩ := arg_ints Try.underlying23 Try.underlying3 cellsInt (hval 3 23 v3 rfl rfl) h3 (fun x hx => hlt x (by simp [hx]))
  refine ⟨?_, rfl, rfl, rfl⟩
  have hmx : maxLen = 9223372036854775807 := rfl
  have b2 := bulk_slice s2
  have b3 := bulk_slice s3
  exact wjoin_any x0 x1 a1 c1 x2 x3 a2 a3 c2 c3 W k1 (by omega) n1 k2 (by omega) k3 (by omega) j2 j3

theorem waysJoin_over : Rows.waysJoinUptoRow.holds Try.pinned (Rows.OpenSpec.upto Rows.waysJoinSpec) :=
  OpenClaim.holds_of_cond 3 Try.f3 rfl rfl rfl rfl rfl rfl rfl ⟨rfl, rfl, rfl, rfl, rfl⟩ rfl rfl rfl rfl rfl (by kernel_rfl) Try.func3 (by kernel_rfl)
    (of_decide_eq_true (by kernel_rfl)) (by unfold Func.isWrapper; first | (rw [if_pos (by decide +kernel)]; kernel_rfl) | (rw [if_neg (by decide +kernel)]; exact ⟨rfl, rfl⟩))
    (fun os started H enc _ F => waysJoin_lifted os started H enc F)

theorem waysJoin_holds : Rows.WaysJoinUptoSaid := waysJoin_over
end Go.Proofs.Ytakkljdeencfbaa
