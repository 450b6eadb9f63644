import Derived.Test.YtfjempfffdeklaaDoorBestWhole
import Derived.Test.YtfjempfffdeklaaDoorSmall
namespace Go.Proofs.YtfjempfffdeklaaDoor
open Go.ChangeShapes Go.WideShapes Go.ChangeAt Go.RowKit Go.Deep Go.Extern.Stop Go.Stop Go.Extern

set_option maxRecDepth 100000 in
theorem bestWhole_lifted (os : Os) (started : os.Started) (H : Type) (enc : TypeId × Value → H) :
    ReturnsInHanded {} Tryd.checked os 6 .any (fun w args => (Rows.bestWholeSpec.pre enc Tryd.prog Tryd.f6 [] false w args ∧ laidMetH Tryd.prog laidL w) ∧ sizedMet enc Tryd.prog Tryd.f6 (OpenSpec.ofChange Rows.bestWholeSpec) false w args) (Rows.bestWholeSpec.post enc Tryd.prog Tryd.f6 false true false false) := by
  refine law_lift_laid (C := Tryd.checked) (X := fun w => laidMetH Tryd.prog laidL w) (fun _ _ hh h => h.of_heap hh) own laidOut (by kernel_rfl) Tryd.func6 rfl rfl Tryd.underlying4 (by kernel_rfl) os started H enc
    (ChangeSpec.witness_at (enc := enc) (C := Tryd.checked) (os := os) (X := fun w _ => laidMetH Tryd.prog laidL w) false (laidWorld os) #[.slice none 0 0, .slice none 0 0, .agg #[.int .u32 0, .int .i64 0]] 8 rfl (by kernel_rfl) (by kernel_rfl) (by kernel_rfl) (by kernel_rfl) (by kernel_rfl) (laidWorld_met os _)) ?_
  intro W base args ds p hval hA hlt hsz hX
  have hg := handle_of_laid hX
  clear hX
  rw [Tryd.params6] at hA hval hsz
  obtain ⟨v0, vs0, d0, ds0, p0, q0, hargs, rfl, rfl, h0, r0⟩ := trodAll_cons hA
  obtain ⟨v1, vs1, d1, ds1, p1, q1, rfl, rfl, rfl, h1, r1⟩ := trodAll_cons r0
  obtain ⟨v2, vs2, d2, ds2, p2, q2, rfl, rfl, rfl, h2, r2⟩ := trodAll_cons r1
  obtain ⟨rfl, rfl, rfl⟩ := trodAll_nil r2
  obtain rfl : args = #[v0, v1, v2] := by cases args; simp_all
  obtain ⟨a0, x0, c0, rfl, k0, j0, i0, n0, y0, s0⟩ := arg_ints Tryd.underlying38 Tryd.underlying3 cellsInt (hval 0 38 v0 rfl rfl) h0 (fun x hx => hlt x (by simp [hx]))
  obtain ⟨a1, x1, c1, rfl, k1, j1, i1, n1, y1, s1⟩ := arg_recs (by decide) Hea.cells_len Tryd.underlying47 (by kernel_rfl) (open_hea Tryd.underlying51 (by kernel_rfl) rfl rfl rfl Tryd.underlying3 cellsNt2 Tryd.underlying37 (by kernel_rfl) rfl rfl Tryd.underlying35 Tryd.underlying3 cellsNt1 cellsNt2 Tryd.underlying3 cellsNt2) (hval 1 47 v1 rfl rfl) h1 (fun x hx => hlt x (by simp [hx]))
  obtain ⟨x2, rfl, n2⟩ := arg_rec Tryd.underlying37 (open_net Tryd.underlying37 (by kernel_rfl) rfl rfl Tryd.underlying35 Tryd.underlying3 cellsNt1 cellsNt2) (hval 2 37 v2 rfl rfl) h2
  refine ⟨?_, rfl, rfl, rfl⟩
  exact bestWhole_any x0 a0 c0 x1 a1 c1 x2.a x2.n W hg k1 n1 (slice_small (k := 32) hsz (j := 1) rfl rfl Tryd.underlying47 (by kernel_rfl) j1 s1) k0 (by have := slice_small (k := 8) hsz (j := 0) rfl rfl Tryd.underlying38 (by kernel_rfl) j0 s0; omega) n2

theorem bestWhole_said : Rows.bestWholeRow.holds Tryd.pinned (OpenSpec.ofChange Rows.bestWholeSpec) :=
  OpenClaim.holds_of_wide 6 Tryd.f6 rfl rfl rfl rfl rfl rfl rfl ⟨rfl, rfl, rfl, rfl, rfl⟩ rfl rfl rfl rfl rfl (by kernel_rfl) Tryd.func6 (by kernel_rfl)
    (of_decide_eq_true (by kernel_rfl)) (by unfold Func.isWrapper; first | (rw [if_pos (by decide +kernel)]; kernel_rfl) | (rw [if_neg (by decide +kernel)]; exact ⟨rfl, rfl⟩))
    (fun os started H enc _ => bestWhole_lifted os started H enc)

theorem bestWhole_holds : Rows.BestWholeCardSaid :=
  Claim7.holds_tied_plain_at .later [] [.handle] true (true, "570a7a594db172276be7361a4698ed1185a4e81fe016e8aad76a6faef397796f") true
    bestWhole_said (fun _ h => by cases h) (by kernel_rfl) (fun _ h => by cases h) bestWhole_row_tie rfl ⟨rfl, rfl⟩ (by kernel_rfl) rfl
    (fun f fn hf hfn => by
      obtain rfl : f = 6 := Option.some.inj ((show Tryd.prog.funcNamed "waywarden/waywardenlaw3.BestWhole" = some 6 by kernel_rfl).symm.trans hf) |>.symm
      obtain rfl : fn = Tryd.f6 := (Option.some.inj (Tryd.func6.symm.trans hfn)).symm
      refine ⟨by kernel_rfl, fun j t ht => ?_⟩
      rw [Tryd.params6] at ht
      match j, ht with
      | 0, ht => exact (Option.some.inj ht) ▸ (show Tryd.prog.wantsStandIn 38 = false by kernel_rfl)
      | 1, ht => exact (Option.some.inj ht) ▸ (show Tryd.prog.wantsStandIn 47 = false by kernel_rfl)
      | 2, ht => exact (Option.some.inj ht) ▸ (show Tryd.prog.wantsStandIn 37 = false by kernel_rfl)
      | j + 3, ht => simp at ht)
    (by kernel_rfl)
end Go.Proofs.YtfjempfffdeklaaDoor
