import Derived.Test.YtenaboichkejhaaDoorPrefUps
import Derived.Test.YtenaboichkejhaaDoorNets
namespace Go.Proofs.YtenaboichkejhaaDoor
open Go.ChangeShapes Go.WideShapes Go.ChangeAt Go.RowKit Go.Deep Go.Extern.Stop Go.Stop Go.Extern

set_option maxRecDepth 100000 in
theorem prefUps_lifted (os : Os) (started : os.Started) (H : Type) (enc : TypeId × Value → H) :
    ReturnsInHanded {} Tryd.checked os 4 .any (fun w args => (Rows.prefUpsSpec.pre enc Tryd.prog Tryd.f4 [] false w args ∧ laidMetH Tryd.prog laidL w) ∧ sizedMet enc Tryd.prog Tryd.f4 (OpenSpec.ofChange Rows.prefUpsSpec) false w args) (Rows.prefUpsSpec.post enc Tryd.prog Tryd.f4 false true false false) := by
  refine law_lift_laid (C := Tryd.checked) (X := fun w => laidMetH Tryd.prog laidL w) (fun _ _ hh h => h.of_heap hh) own laidOut (by kernel_rfl) Tryd.func4 rfl rfl Tryd.underlying4 (by kernel_rfl) os started H enc
    (ChangeSpec.witness_at (enc := enc) (C := Tryd.checked) (os := os) (X := fun w _ => laidMetH Tryd.prog laidL w) false (laidWorld os) #[.agg #[.int .u32 0, .int .i64 0], .int .u32 0] 8 rfl (by kernel_rfl) (by kernel_rfl) (by kernel_rfl) (by kernel_rfl) (by kernel_rfl) (laidWorld_met os _)) ?_
  intro W base args ds p hval hA hlt hsz hX
  have hg := handle_of_laid hX
  clear hX
  rw [Tryd.params4] at hA hval hsz
  obtain ⟨v0, vs0, d0, ds0, p0, q0, hargs, rfl, rfl, h0, r0⟩ := trodAll_cons hA
  obtain ⟨v1, vs1, d1, ds1, p1, q1, rfl, rfl, rfl, h1, r1⟩ := trodAll_cons r0
  obtain ⟨rfl, rfl, rfl⟩ := trodAll_nil r1
  obtain rfl : args = #[v0, v1] := by cases args; simp_all
  obtain ⟨x0, rfl, n0⟩ := arg_rec Tryd.underlying34 (open_net Tryd.underlying34 (by kernel_rfl) rfl rfl Tryd.underlying32 Tryd.underlying3 cellsNt1 cellsNt2) (hval 0 34 v0 rfl rfl) h0
  obtain ⟨x1, rfl, rfl, rfl, k1⟩ := open_int Tryd.underlying32 (hval 1 32 v1 rfl rfl) h1
  refine ⟨?_, rfl, rfl, rfl⟩
  obtain ⟨xa0, xn0⟩ := x0
  exact prefUps_any xa0 xn0 x1 W hg ⟨n0.1, n0.2.1⟩ (u32_wf k1)

theorem prefUps_said : Rows.prefUpsRow.holds Tryd.pinned (OpenSpec.ofChange Rows.prefUpsSpec) :=
  OpenClaim.holds_of_wide 4 Tryd.f4 rfl rfl rfl rfl rfl rfl rfl ⟨rfl, rfl, rfl, rfl, rfl⟩ rfl rfl rfl rfl rfl (by kernel_rfl) Tryd.func4 (by kernel_rfl)
    (of_decide_eq_true (by kernel_rfl)) (by unfold Func.isWrapper; first | (rw [if_pos (by decide +kernel)]; kernel_rfl) | (rw [if_neg (by decide +kernel)]; exact ⟨rfl, rfl⟩))
    (fun os started H enc _ => prefUps_lifted os started H enc)

theorem prefUps_holds : Rows.PrefUpsCardSaid :=
  Claim7.holds_tied_plain_at .later [] [.handle] true (true, "ba4c3db9491983552c6aab6376243e8f5acdd23acbbc83b05a29f430dc7a539d") true
    prefUps_said (fun _ h => by cases h) (by kernel_rfl) (fun _ h => by cases h) prefUps_row_tie rfl ⟨rfl, rfl⟩ (by kernel_rfl) rfl
    (fun f fn hf hfn => by
      obtain rfl : f = 4 := Option.some.inj ((show Tryd.prog.funcNamed "waywarden/waywardenlaw6.PrefUps" = some 4 by kernel_rfl).symm.trans hf) |>.symm
      obtain rfl : fn = Tryd.f4 := (Option.some.inj (Tryd.func4.symm.trans hfn)).symm
      refine ⟨by kernel_rfl, fun j t ht => ?_⟩
      rw [Tryd.params4] at ht
      match j, ht with
      | 0, ht => exact (Option.some.inj ht) ▸ (show Tryd.prog.wantsStandIn 34 = false by kernel_rfl)
      | 1, ht => exact (Option.some.inj ht) ▸ (show Tryd.prog.wantsStandIn 32 = false by kernel_rfl)
      | j + 2, ht => simp at ht)
    (by kernel_rfl)
end Go.Proofs.YtenaboichkejhaaDoor
