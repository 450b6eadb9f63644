import Derived.Test.YtlmoaompmiobjaaPowers
import Derived.Test.YtlmoaompmiobjaaRowA
namespace Go.Proofs.Ytlmoaompmiobjaa
open Go.ChangeShapes Go.WideShapes Go.ChangeAt Go.RowKit

set_option maxRecDepth 100000 in
theorem matPowers_lifted (os : Os) (started : os.Started) (H : Type) (enc : TypeId × Value → H) :
    ReturnsInHanded {} Try.checked os 7 .any (Rows.matPowersSpec.pre6 enc Try.prog Try.f7 Rows.matPowersRow.domain false) (Rows.matPowersSpec.post enc Try.prog Try.f7 false true false false) := by
  refine law_lift (C := Try.checked) own laidOut (by kernel_rfl) Try.func7 rfl rfl Try.underlying4 (by kernel_rfl) os started H enc
    (ChangeSpec.witness6 (enc := enc) (C := Try.checked) false ⟨#[], #[.slice none 0 0], []⟩ 8 (by kernel_rfl) (by kernel_rfl) (by kernel_rfl) (by kernel_rfl)) ?_
  intro W base args ds p hval hA hlt hsz
  rw [Try.params7] at hA hval hsz
  obtain ⟨v0, vs0, d0, ds0, p0, q0, hargs, rfl, rfl, h0, r0⟩ := trodAll_cons hA
  obtain ⟨rfl, rfl, rfl⟩ := trodAll_nil r0
  obtain rfl : args = #[v0] := by cases args; simp_all
  obtain ⟨a0, x0, c0, A0, C0, rfl, k0, j0, i0, n0, y0, y'0, z0, s0, u0⟩ := arg_rows Try.underlying27 Try.underlying28 Try.underlying3 cellsInts cellsInt (hval 0 27 v0 rfl rfl) h0 (fun x hx => hlt x (by simp [hx]))
  refine ⟨?_, rfl, rfl, rfl⟩
  exact powers_any x0 a0 c0 A0 C0 W k0 (by have : maxLen = 9223372036854775807 := rfl; omega)

theorem matPowers_over : Rows.matPowersRow.holds Try.pinned (OpenSpec.ofChange Rows.matPowersSpec) :=
  OpenClaim.holds_of_wide 7 Try.f7 rfl rfl rfl rfl rfl rfl rfl ⟨rfl, rfl, rfl, rfl, rfl⟩ rfl rfl rfl rfl rfl (by kernel_rfl) Try.func7 (by kernel_rfl)
    (of_decide_eq_true (by kernel_rfl)) (by unfold Func.isWrapper; first | (rw [if_pos (by decide +kernel)]; kernel_rfl) | (rw [if_neg (by decide +kernel)]; exact ⟨rfl, rfl⟩))
    (fun os started H enc _ => matPowers_lifted os started H enc)

theorem matPowers_holds : Rows.MatPowersSaid := matPowers_over
end Go.Proofs.Ytlmoaompmiobjaa
