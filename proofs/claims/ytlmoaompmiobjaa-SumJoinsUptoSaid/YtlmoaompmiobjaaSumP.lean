import Derived.Test.YtlmoaompmiobjaaSum
import Derived.Test.YtlmoaompmiobjaaRowA
namespace Go.Proofs.Ytlmoaompmiobjaa
open Go.ChangeShapes Go.WideShapes Go.ChangeAt Go.RowKit

theorem cellsByte : Try.prog.cellsOf 5 = 1 := by kernel_rfl
theorem byte_wf {l : List Int} (h : ∀ n ∈ l, (Lit.int .u8 n).wf = true) : ∀ x ∈ l, 0 ≤ x ∧ x ≤ 255 := fun x hx => by
  have := h x hx
  have h1 : IntKind.u8.min = 0 := rfl
  have h2 : IntKind.u8.max = 255 := rfl
  simp only [Lit.wf, Bool.and_eq_true, decide_eq_true_eq] at this
  omega

set_option maxRecDepth 100000 in
theorem sumJoins_lifted (os : Os) (started : os.Started) (H : Type) (enc : TypeId × Value → H) (F : Stop.Interp) :
    ReturnsInHanded {} Try.checked os 3 .any ((Rows.OpenSpec.upto Rows.sumJoinsSpec).pre6 enc Try.prog Try.f3 Rows.sumJoinsUptoRow.domain false) (((Rows.OpenSpec.upto Rows.sumJoinsSpec).at F).post enc Try.prog Try.f3 false true false false) := by
  refine law_lift_cond (C := Try.checked) (k := Rows.uptoSmall) own laidOut (by kernel_rfl) Try.func3 rfl rfl Try.underlying4 (by kernel_rfl) os started H enc F
    (OpenSpec.witness (enc := enc) (C := Try.checked) (s := Rows.OpenSpec.upto Rows.sumJoinsSpec) (k := Rows.uptoSmall) rfl false ⟨#[], #[.slice none 0 0, .slice none 0 0], []⟩ 8 (by kernel_rfl) (by kernel_rfl) (by kernel_rfl) (x := ([.nil, .nil], [], [])) (by kernel_rfl) rfl (by kernel_rfl)) ?_
  intro W base args ds p hval hA hlt hsz hk
  have hb := small_all hk
  rw [Try.params3] at hA hval hsz
  obtain ⟨v0, vs0, d0, ds0, p0, q0, hargs, rfl, rfl, h0, r0⟩ := trodAll_cons hA
  obtain ⟨v1, vs1, d1, ds1, p1, q1, rfl, rfl, rfl, h1, r1⟩ := trodAll_cons r0
  obtain ⟨rfl, rfl, rfl⟩ := trodAll_nil r1
  obtain rfl : args = #[v0, v1] := by cases args; simp_all
  simp only [Rows.uptoBulkAll] at hb
  obtain ⟨a0, x0, c0, rfl, k0, j0, i0, n0, y0, s0⟩ := arg_ints Try.underlying22 Try.underlying5 cellsByte (hval 0 22 v0 rfl rfl) h0 (fun x hx => hlt x (by simp [hx]))
  obtain ⟨a1, x1, c1, rfl, k1, j1, i1, n1, y1, s1⟩ := arg_ints Try.underlying22 Try.underlying5 cellsByte (hval 1 22 v1 rfl rfl) h1 (fun x hx => hlt x (by simp [hx]))
  refine ⟨?_, rfl, rfl, rfl⟩
  exact joins_any x0 x1 a0 a1 c0 c1 W k0 k1 (byte_wf n0) (byte_wf n1) (by have := bulk_slice s0; have := bulk_slice s1; omega)

theorem sumJoins_over : Rows.sumJoinsUptoRow.holds Try.pinned (Rows.OpenSpec.upto Rows.sumJoinsSpec) :=
  OpenClaim.holds_of_cond 3 Try.f3 rfl rfl rfl rfl rfl rfl rfl ⟨rfl, rfl, rfl, rfl, rfl⟩ rfl rfl rfl rfl rfl (by kernel_rfl) Try.func3 (by kernel_rfl)
    (of_decide_eq_true (by kernel_rfl)) (by unfold Func.isWrapper; first | (rw [if_pos (by decide +kernel)]; kernel_rfl) | (rw [if_neg (by decide +kernel)]; exact ⟨rfl, rfl⟩))
    (fun os started H enc _ F => sumJoins_lifted os started H enc F)

theorem sumJoins_holds : Rows.SumJoinsUptoSaid := sumJoins_over
end Go.Proofs.Ytlmoaompmiobjaa
