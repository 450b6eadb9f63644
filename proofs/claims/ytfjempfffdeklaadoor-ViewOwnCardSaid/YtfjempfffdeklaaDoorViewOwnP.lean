import Derived.Test.YtfjempfffdeklaaDoorViewOwn
import Derived.Test.YtfjempfffdeklaaDoorBestSmall
namespace Go.Proofs.YtfjempfffdeklaaDoor
open Go.ChangeShapes Go.WideShapes Go.ChangeAt Go.RowKit Go.Deep Go.Extern.Stop Go.Stop Go.Extern

set_option maxRecDepth 100000 in
theorem viewOwn_lifted (os : Os) (started : os.Started) (H : Type) (enc : TypeId × Value → H) :
    ReturnsInHanded {} Tryd.checked os 4 .any (fun w args => (Rows.viewOwnSpec.pre enc Tryd.prog Tryd.f4 [] false w args ∧ laidMetH Tryd.prog laidL w) ∧ sizedMet enc Tryd.prog Tryd.f4 (OpenSpec.ofChange Rows.viewOwnSpec) false w args) (Rows.viewOwnSpec.post enc Tryd.prog Tryd.f4 false true false false) := by
  refine law_lift_laid (C := Tryd.checked) (X := fun w => laidMetH Tryd.prog laidL w) (fun _ _ hh h => h.of_heap hh) own laidOut (by kernel_rfl) Tryd.func4 rfl rfl Tryd.underlying4 (by kernel_rfl) os started H enc
    (ChangeSpec.witness_at (enc := enc) (C := Tryd.checked) (os := os) (X := fun w _ => laidMetH Tryd.prog laidL w) false (laidWorld os) #[.slice none 0 0, .int .i64 0, .bool false, .int .i64 0] 8 rfl (by kernel_rfl) (by kernel_rfl) (by kernel_rfl) (by kernel_rfl) (by kernel_rfl) (laidWorld_met os _)) ?_
  intro W base args ds p hval hA hlt hsz hX
  have hg := handle_of_laid hX
  clear hX
  rw [Tryd.params4] at hA hval hsz
  obtain ⟨v0, vs0, d0, ds0, p0, q0, hargs, rfl, rfl, h0, r0⟩ := trodAll_cons hA
  obtain ⟨v1, vs1, d1, ds1, p1, q1, rfl, rfl, rfl, h1, r1⟩ := trodAll_cons r0
  obtain ⟨v2, vs2, d2, ds2, p2, q2, rfl, rfl, rfl, h2, r2⟩ := trodAll_cons r1
  obtain ⟨v3, vs3, d3, ds3, p3, q3, rfl, rfl, rfl, h3, r3⟩ := trodAll_cons r2
  obtain ⟨rfl, rfl, rfl⟩ := trodAll_nil r3
  obtain rfl : args = #[v0, v1, v2, v3] := by cases args; simp_all
  obtain ⟨a0, x0, c0, rfl, k0, j0, i0, n0, y0, s0⟩ := arg_recsP (wf := bestOpen W) (by decide) BestR.cells_len Tryd.underlying22 (by kernel_rfl) (open_best Tryd.underlying40 (by kernel_rfl) rfl rfl rfl Tryd.underlying37 (by kernel_rfl) rfl rfl Tryd.underlying35 Tryd.underlying3 cellsNt1 cellsNt2 Tryd.underlying3 cellsNt2 Tryd.underlying38 (by kernel_rfl) Tryd.underlying3 cellsNt2) (hval 0 22 v0 rfl rfl) h0 (fun x hx => hlt x (by simp [hx]))
  obtain ⟨x1, rfl, rfl, rfl, k1⟩ := open_int Tryd.underlying3 (hval 1 3 v1 rfl rfl) h1
  obtain ⟨x2, rfl, rfl, rfl⟩ := open_bool Tryd.underlying4 (hval 2 4 v2 rfl rfl) h2
  obtain ⟨x3, rfl, rfl, rfl, k3⟩ := open_int Tryd.underlying3 (hval 3 3 v3 rfl rfl) h3
  refine ⟨?_, rfl, rfl, rfl⟩
  exact viewOwn_any x0 a0 c0 x1 x3 x2 W hg ⟨k0, fun q hq => by obtain ⟨dd, pl, ⟨hw, -⟩, -⟩ := n0 q hq; exact hw, fun q hq => by obtain ⟨dd, pl, ⟨-, hI, -⟩, hp, -⟩ := n0 q hq; exact hI (fun y hy => hlt y (by simp [hp y hy]))⟩ (slice_small hsz (j := 0) rfl rfl Tryd.underlying22 (by kernel_rfl) j0 s0) (Lib.hid (fun q hq => by obtain ⟨dd, pl, ho, -, hm⟩ := n0 q hq; exact bests_small hsz (j := 0) rfl rfl Tryd.underlying22 Tryd.underlying40 rfl Tryd.underlying38 (by kernel_rfl) ho hm))

theorem viewOwn_said : Rows.viewOwnRow.holds Tryd.pinned (OpenSpec.ofChange Rows.viewOwnSpec) :=
  OpenClaim.holds_of_wide 4 Tryd.f4 rfl rfl rfl rfl rfl rfl rfl ⟨rfl, rfl, rfl, rfl, rfl⟩ rfl rfl rfl rfl rfl (by kernel_rfl) Tryd.func4 (by kernel_rfl)
    (of_decide_eq_true (by kernel_rfl)) (by unfold Func.isWrapper; first | (rw [if_pos (by decide +kernel)]; kernel_rfl) | (rw [if_neg (by decide +kernel)]; exact ⟨rfl, rfl⟩))
    (fun os started H enc _ => viewOwn_lifted os started H enc)

theorem viewOwn_holds : Rows.ViewOwnCardSaid :=
  Claim7.holds_tied_plain_at .later [] [.handle] true (true, "570a7a594db172276be7361a4698ed1185a4e81fe016e8aad76a6faef397796f") true
    viewOwn_said (fun _ h => by cases h) (by kernel_rfl) (fun _ h => by cases h) viewOwn_row_tie rfl ⟨rfl, rfl⟩ (by kernel_rfl) rfl
    (fun f fn hf hfn => by
      obtain rfl : f = 4 := Option.some.inj ((show Tryd.prog.funcNamed "waywarden/waywardenlaw7.ViewOwn" = some 4 by kernel_rfl).symm.trans hf) |>.symm
      obtain rfl : fn = Tryd.f4 := (Option.some.inj (Tryd.func4.symm.trans hfn)).symm
      refine ⟨by kernel_rfl, fun j t ht => ?_⟩
      rw [Tryd.params4] at ht
      match j, ht with
      | 0, ht => exact (Option.some.inj ht) ▸ (show Tryd.prog.wantsStandIn 22 = false by kernel_rfl)
      | 1, ht => exact (Option.some.inj ht) ▸ (show Tryd.prog.wantsStandIn 3 = false by kernel_rfl)
      | 2, ht => exact (Option.some.inj ht) ▸ (show Tryd.prog.wantsStandIn 4 = false by kernel_rfl)
      | 3, ht => exact (Option.some.inj ht) ▸ (show Tryd.prog.wantsStandIn 3 = false by kernel_rfl)
      | j + 4, ht => simp at ht)
    (by kernel_rfl)
end Go.Proofs.YtfjempfffdeklaaDoor
