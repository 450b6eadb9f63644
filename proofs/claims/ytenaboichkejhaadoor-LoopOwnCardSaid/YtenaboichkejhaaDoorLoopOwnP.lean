import Derived.Test.YtenaboichkejhaaDoorLoopOwn
import Derived.Test.YtenaboichkejhaaDoorSmall
namespace Go.Proofs.YtenaboichkejhaaDoor
open Go.ChangeShapes Go.WideShapes Go.ChangeAt Go.RowKit Go.Deep Go.Extern.Stop Go.Stop Go.Extern

set_option maxRecDepth 100000 in
theorem loopOwn_lifted (os : Os) (started : os.Started) (H : Type) (enc : TypeId × Value → H) :
    ReturnsInHanded {} Tryd.checked os 3 .any (fun w args => (Rows.loopOwnSpec.pre enc Tryd.prog Tryd.f3 [] false w args ∧ laidMetH Tryd.prog laidL w) ∧ sizedMet enc Tryd.prog Tryd.f3 (OpenSpec.ofChange Rows.loopOwnSpec) false w args) (Rows.loopOwnSpec.post enc Tryd.prog Tryd.f3 false true false false) := by
  refine law_lift_laid (C := Tryd.checked) (X := fun w => laidMetH Tryd.prog laidL w) (fun _ _ hh h => h.of_heap hh) own laidOut (by kernel_rfl) Tryd.func3 rfl rfl Tryd.underlying4 (by kernel_rfl) os started H enc
    (ChangeSpec.witness_at (enc := enc) (C := Tryd.checked) (os := os) (X := fun w _ => laidMetH Tryd.prog laidL w) false (laidWorld os) #[.slice none 0 0, .int .i64 0] 8 rfl (by kernel_rfl) (by kernel_rfl) (by kernel_rfl) (by kernel_rfl) (by kernel_rfl) (laidWorld_met os _)) ?_
  intro W base args ds p hval hA hlt hsz hX
  have hg := handle_of_laid hX
  clear hX
  rw [Tryd.params3] at hA hval hsz
  obtain ⟨v0, vs0, d0, ds0, p0, q0, hargs, rfl, rfl, h0, r0⟩ := trodAll_cons hA
  obtain ⟨v1, vs1, d1, ds1, p1, q1, rfl, rfl, rfl, h1, r1⟩ := trodAll_cons r0
  obtain ⟨rfl, rfl, rfl⟩ := trodAll_nil r1
  obtain rfl : args = #[v0, v1] := by cases args; simp_all
  obtain ⟨a0, x0, c0, rfl, k0, j0, i0, n0, y0, s0⟩ := arg_ints Tryd.underlying22 Tryd.underlying3 cellsInt (hval 0 22 v0 rfl rfl) h0 (fun x hx => hlt x (by simp [hx]))
  obtain ⟨x1, rfl, rfl, rfl, k1⟩ := open_int Tryd.underlying3 (hval 1 3 v1 rfl rfl) h1
  refine ⟨?_, rfl, rfl, rfl⟩
  exact loopOwn_any x0 a0 c0 x1 W hg k0 (slice_small hsz (j := 0) rfl rfl Tryd.underlying22 (by kernel_rfl) j0 s0)

theorem loopOwn_said : Rows.loopOwnRow.holds Tryd.pinned (OpenSpec.ofChange Rows.loopOwnSpec) :=
  OpenClaim.holds_of_wide 3 Tryd.f3 rfl rfl rfl rfl rfl rfl rfl ⟨rfl, rfl, rfl, rfl, rfl⟩ rfl rfl rfl rfl rfl (by kernel_rfl) Tryd.func3 (by kernel_rfl)
    (of_decide_eq_true (by kernel_rfl)) (by unfold Func.isWrapper; first | (rw [if_pos (by decide +kernel)]; kernel_rfl) | (rw [if_neg (by decide +kernel)]; exact ⟨rfl, rfl⟩))
    (fun os started H enc _ => loopOwn_lifted os started H enc)

theorem loopOwn_holds : Rows.LoopOwnCardSaid :=
  Claim7.holds_tied_plain_at .later [] [.handle] true (true, "ba4c3db9491983552c6aab6376243e8f5acdd23acbbc83b05a29f430dc7a539d") true
    loopOwn_said (fun _ h => by cases h) (by kernel_rfl) (fun _ h => by cases h) loopOwn_row_tie rfl ⟨rfl, rfl⟩ (by kernel_rfl) rfl
    (fun f fn hf hfn => by
      obtain rfl : f = 3 := Option.some.inj ((show Tryd.prog.funcNamed "waywarden/waywardenlaw7.LoopOwn" = some 3 by kernel_rfl).symm.trans hf) |>.symm
      obtain rfl : fn = Tryd.f3 := (Option.some.inj (Tryd.func3.symm.trans hfn)).symm
      refine ⟨by kernel_rfl, fun j t ht => ?_⟩
      rw [Tryd.params3] at ht
      match j, ht with
      | 0, ht => exact (Option.some.inj ht) ▸ (show Tryd.prog.wantsStandIn 22 = false by kernel_rfl)
      | 1, ht => exact (Option.some.inj ht) ▸ (show Tryd.prog.wantsStandIn 3 = false by kernel_rfl)
      | j + 2, ht => simp at ht)
    (by kernel_rfl)
end Go.Proofs.YtenaboichkejhaaDoor
