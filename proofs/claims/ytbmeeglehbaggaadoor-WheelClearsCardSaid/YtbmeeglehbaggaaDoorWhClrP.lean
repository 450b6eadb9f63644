import Derived.Test.YtbmeeglehbaggaaDoorWhClr
import Derived.Test.YtbmeeglehbaggaaDoorRowA
import Derived.Test.YtbmeeglehbaggaaDoorSmall
namespace Go.Proofs.YtbmeeglehbaggaaDoor
open Go.ChangeShapes Go.WideShapes Go.ChangeAt Go.RowKit Go.Deep Go.Extern.Stop Go.Stop Go.Extern

set_option maxRecDepth 100000 in
theorem wheelClears_lifted (os : Os) (started : os.Started) (H : Type) (enc : TypeId × Value → H) :
    ReturnsInHanded {} Tryd.checked os 6 .any (fun w args => (Rows.wheelClearsSpec.pre enc Tryd.prog Tryd.f6 [] false w args ∧ laidMetH Tryd.prog laidL w) ∧ sizedMet enc Tryd.prog Tryd.f6 (OpenSpec.ofChange Rows.wheelClearsSpec) false w args) (Rows.wheelClearsSpec.post enc Tryd.prog Tryd.f6 false true false false) := by
  refine law_lift_laid (C := Tryd.checked) (X := fun w => laidMetH Tryd.prog laidL w) (fun _ _ hh h => h.of_heap hh) own laidOut (by kernel_rfl) Tryd.func6 rfl rfl Tryd.underlying4 (by kernel_rfl) os started H enc
    (ChangeSpec.witness_at (enc := enc) (C := Tryd.checked) (os := os) (X := fun w _ => laidMetH Tryd.prog laidL w) false (laidWorld os) #[.slice none 0 0, .slice none 0 0, .int .i64 0, .int .i64 0, .int .i64 0] 8 rfl (by kernel_rfl) (by kernel_rfl) (by kernel_rfl) (by kernel_rfl) (by kernel_rfl) (laidWorld_met os _)) ?_
  intro W base args ds p hval hA hlt hsz hX
  have hg := handle_of_laid hX
  clear hX
  rw [Tryd.params6] at hA hval hsz
  obtain ⟨v0, vs0, d0, ds0, p0, q0, hargs, rfl, rfl, h0, r0⟩ := trodAll_cons hA
  obtain ⟨v1, vs1, d1, ds1, p1, q1, rfl, rfl, rfl, h1, r1⟩ := trodAll_cons r0
  obtain ⟨v2, vs2, d2, ds2, p2, q2, rfl, rfl, rfl, h2, r2⟩ := trodAll_cons r1
  obtain ⟨v3, vs3, d3, ds3, p3, q3, rfl, rfl, rfl, h3, r3⟩ := trodAll_cons r2
  obtain ⟨v4, vs4, d4, ds4, p4, q4, rfl, rfl, rfl, h4, r4⟩ := trodAll_cons r3
  obtain ⟨rfl, rfl, rfl⟩ := trodAll_nil r4
  obtain rfl : args = #[v0, v1, v2, v3, v4] := by cases args; simp_all
  obtain ⟨a0, x0, c0, rfl, k0, j0, i0, n0, y0, s0⟩ := arg_ints Tryd.underlying30 Tryd.underlying3 cellsInt (hval 0 30 v0 rfl rfl) h0 (fun x hx => hlt x (by simp [hx]))
  obtain ⟨a1, x1, c1, rfl, k1, j1, i1, n1, y1, s1⟩ := arg_ints Tryd.underlying30 Tryd.underlying3 cellsInt (hval 1 30 v1 rfl rfl) h1 (fun x hx => hlt x (by simp [hx]))
  obtain ⟨x2, rfl, rfl, rfl, k2⟩ := open_int Tryd.underlying3 (hval 2 3 v2 rfl rfl) h2
  obtain ⟨x3, rfl, rfl, rfl, k3⟩ := open_int Tryd.underlying3 (hval 3 3 v3 rfl rfl) h3
  obtain ⟨x4, rfl, rfl, rfl, k4⟩ := open_int Tryd.underlying3 (hval 4 3 v4 rfl rfl) h4
  refine ⟨?_, rfl, rfl, rfl⟩
  have s0' := slice_small (k := 8) hsz (j := 0) rfl rfl Tryd.underlying30 (by kernel_rfl) j0 s0
  have s1' := slice_small (k := 8) hsz (j := 1) rfl rfl Tryd.underlying30 (by kernel_rfl) j1 s1
  exact wheelClears_any x0 x1 a0 a1 c0 c1 x2 x3 x4 W hg k0 k1 (by omega) (by omega) n0 k2

theorem wheelClears_said : Rows.wheelClearsRow.holds Tryd.pinned (OpenSpec.ofChange Rows.wheelClearsSpec) :=
  OpenClaim.holds_of_wide 6 Tryd.f6 rfl rfl rfl rfl rfl rfl rfl ⟨rfl, rfl, rfl, rfl, rfl⟩ rfl rfl rfl rfl rfl (by kernel_rfl) Tryd.func6 (by kernel_rfl)
    (of_decide_eq_true (by kernel_rfl)) (by unfold Func.isWrapper; first | (rw [if_pos (by decide +kernel)]; kernel_rfl) | (rw [if_neg (by decide +kernel)]; exact ⟨rfl, rfl⟩))
    (fun os started H enc _ => wheelClears_lifted os started H enc)

theorem wheelClears_holds : Rows.WheelClearsCardSaid :=
  Claim7.holds_tied_plain_at .later [] [.handle] true (true, "1a9e3f63fa0295df7dabe07c85cab3429ad847de1523d9746532fcdb70b2f063") true
    wheelClears_said (fun _ h => by cases h) (by kernel_rfl) (fun _ h => by cases h) wheelClears_row_tie rfl ⟨rfl, rfl⟩ (by kernel_rfl) rfl
    (fun f fn hf hfn => by
      obtain rfl : f = 6 := Option.some.inj ((show Tryd.prog.funcNamed "waywarden/waywardenlaw6.WheelClears" = some 6 by kernel_rfl).symm.trans hf) |>.symm
      obtain rfl : fn = Tryd.f6 := (Option.some.inj (Tryd.func6.symm.trans hfn)).symm
      refine ⟨by kernel_rfl, fun j t ht => ?_⟩
      rw [Tryd.params6] at ht
      match j, ht with
      | 0, ht => exact (Option.some.inj ht) ▸ (show Tryd.prog.wantsStandIn 30 = false by kernel_rfl)
      | 1, ht => exact (Option.some.inj ht) ▸ (show Tryd.prog.wantsStandIn 30 = false by kernel_rfl)
      | 2, ht => exact (Option.some.inj ht) ▸ (show Tryd.prog.wantsStandIn 3 = false by kernel_rfl)
      | 3, ht => exact (Option.some.inj ht) ▸ (show Tryd.prog.wantsStandIn 3 = false by kernel_rfl)
      | 4, ht => exact (Option.some.inj ht) ▸ (show Tryd.prog.wantsStandIn 3 = false by kernel_rfl)
      | j + 5, ht => simp at ht)
    (by kernel_rfl)
end Go.Proofs.YtbmeeglehbaggaaDoor
