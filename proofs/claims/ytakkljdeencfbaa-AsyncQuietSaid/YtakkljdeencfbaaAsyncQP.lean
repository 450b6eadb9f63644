import Derived.Test.YtakkljdeencfbaaAsyncQ
import Derived.Test.YtakkljdeencfbaaSmall
namespace Go.Proofs.Ytakkljdeencfbaa
open Go.ChangeShapes Go.WideShapes Go.ChangeAt Go.RowKit

set_option maxRecDepth 100000 in
theorem asyncQuiet_lifted (os : Os) (started : os.Started) (H : Type) (enc : TypeId × Value → H) :
    ReturnsInHanded {} Try.checked os 5 .any (Rows.asyncQuietSpec.pre6 enc Try.prog Try.f5 Rows.asyncQuietRow.domain false) (Rows.asyncQuietSpec.post enc Try.prog Try.f5 false true false false) := by
  refine law_lift (C := Try.checked) own laidOut (by kernel_rfl) Try.func5 rfl rfl Try.underlying4 (by kernel_rfl) os started H enc
    (ChangeSpec.witness6 (enc := enc) (C := Try.checked) false ⟨#[], #[.int .i64 0, .slice none 0 0, .int .i64 0, .slice none 0 0, .slice none 0 0, .slice none 0 0, .int .i64 0, .int .i64 0], []⟩ 8 (by kernel_rfl) (by kernel_rfl) (by kernel_rfl) (by kernel_rfl)) ?_
  intro W base args ds p hval hA hlt hsz
  rw [Try.params5] at hA hval hsz
  obtain ⟨v0, vs0, d0, ds0, p0, q0, hargs, rfl, rfl, h0, r0⟩ := trodAll_cons hA
  obtain ⟨v1, vs1, d1, ds1, p1, q1, rfl, rfl, rfl, h1, r1⟩ := trodAll_cons r0
  obtain ⟨v2, vs2, d2, ds2, p2, q2, rfl, rfl, rfl, h2, r2⟩ := trodAll_cons r1
  obtain ⟨v3, vs3, d3, ds3, p3, q3, rfl, rfl, rfl, h3, r3⟩ := trodAll_cons r2
  obtain ⟨v4, vs4, d4, ds4, p4, q4, rfl, rfl, rfl, h4, r4⟩ := trodAll_cons r3
  obtain ⟨v5, vs5, d5, ds5, p5, q5, rfl, rfl, rfl, h5, r5⟩ := trodAll_cons r4
  obtain ⟨v6, vs6, d6, ds6, p6, q6, rfl, rfl, rfl, h6, r6⟩ := trodAll_cons r5
  obtain ⟨v7, vs7, d7, ds7, p7, q7, rfl, rfl, rfl, h7, r7⟩ := trodAll_cons r6
  obtain ⟨rfl, rfl, rfl⟩ := trodAll_nil r7
  obtain rfl : args = #[v0, v1, v2, v3, v4, v5, v6, v7] := by cases args; simp_all
  obtain ⟨x0, rfl, rfl, rfl, k0⟩ := open_int Try.underlying3 (hval 0 3 v0 rfl rfl) h0
  obtain ⟨a1, x1, c1, rfl, k1, j1, i1, n1, y1, s1⟩ := arg_links Try.underlying22 Try.underlying29 (by kernel_rfl) rfl rfl rfl Try.underlying3 Try.underlying3 Try.underlying3 cellsInt cellsInt cellsInt (hval 1 22 v1 rfl rfl) h1 (fun x hx => hlt x (by simp [hx]))
  obtain ⟨x2, rfl, rfl, rfl, k2⟩ := open_int Try.underlying3 (hval 2 3 v2 rfl rfl) h2
  obtain ⟨a3, x3, c3, rfl, k3, j3, i3, n3, y3, s3⟩ := arg_recs (by decide) bcells_len Try.underlying34 (by kernel_rfl) (open_bool1 Try.underlying4) (hval 3 34 v3 rfl rfl) h3 (fun x hx => hlt x (by simp [hx]))
  obtain ⟨a4, x4, c4, rfl, k4, j4, i4, n4, y4, s4⟩ := arg_ints Try.underlying23 Try.underlying3 cellsInt (hval 4 23 v4 rfl rfl) h4 (fun x hx => hlt x (by simp [hx]))
  obtain ⟨a5, x5, c5, rfl, k5, j5, i5, n5, y5, s5⟩ := arg_ints Try.underlying23 Try.underlying3 cellsInt (hval 5 23 v5 rfl rfl) h5 (fun x hx => hlt x (by simp [hx]))
  obtain ⟨x6, rfl, rfl, rfl, k6⟩ := open_int Try.underlying3 (hval 6 3 v6 rfl rfl) h6
  obtain ⟨x7, rfl, rfl, rfl, k7⟩ := open_int Try.underlying3 (hval 7 3 v7 rfl rfl) h7
  refine ⟨?_, rfl, rfl, rfl⟩
  exact asyncQuiet_any x0 x1 a1 c1 x2 x3 a3 c3 x4 x5 a4 a5 c4 c5 x6 x7 W k1 (by have h1 := j1; have h2 : c1 ≤ 9223372036854775807 := i1; omega) n1 k3 k4 k5 (by have h1 := (slice_small (k := 1) hsz (j := 3) rfl rfl Try.underlying34 (by kernel_rfl) j3 s3); omega) (by have h1 := (slice_small (k := 8) hsz (j := 4) rfl rfl Try.underlying23 (by kernel_rfl) j4 s4); omega) (by have h1 := (slice_small (k := 8) hsz (j := 5) rfl rfl Try.underlying23 (by kernel_rfl) j5 s5); omega)

theorem asyncQuiet_over : Rows.asyncQuietRow.holds Try.pinned (OpenSpec.ofChange Rows.asyncQuietSpec) :=
  OpenClaim.holds_of_wide 5 Try.f5 rfl rfl rfl rfl rfl rfl rfl ⟨rfl, rfl, rfl, rfl, rfl⟩ rfl rfl rfl rfl rfl (by kernel_rfl) Try.func5 (by kernel_rfl)
    (of_decide_eq_true (by kernel_rfl)) (by unfold Func.isWrapper; first | (rw [if_pos (by decide +kernel)]; kernel_rfl) | (rw [if_neg (by decide +kernel)]; exact ⟨rfl, rfl⟩))
    (fun os started H enc _ => asyncQuiet_lifted os started H enc)

theorem asyncQuiet_holds : Rows.AsyncQuietSaid := asyncQuiet_over
end Go.Proofs.Ytakkljdeencfbaa
