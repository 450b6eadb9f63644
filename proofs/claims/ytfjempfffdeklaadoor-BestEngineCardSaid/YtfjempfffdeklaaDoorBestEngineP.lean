import Derived.Test.YtfjempfffdeklaaDoorBestEngine
import Derived.Test.YtfjempfffdeklaaDoorSmall
namespace Go.Proofs.YtfjempfffdeklaaDoor
open Go.ChangeShapes Go.WideShapes Go.ChangeAt Go.RowKit Go.Deep Go.Extern.Stop Go.Stop Go.Extern

set_option maxRecDepth 100000 in
theorem bestEngine_lifted (os : Os) (started : os.Started) (H : Type) (enc : TypeId × Value → H) :
    ReturnsInHanded {} Tryd.checked os 7 .any (fun w args => (Rows.bestEngineSpec.pre enc Tryd.prog Tryd.f7 [] false w args ∧ laidMetH Tryd.prog laidL w) ∧ sizedMet enc Tryd.prog Tryd.f7 (OpenSpec.ofChange Rows.bestEngineSpec) false w args) (Rows.bestEngineSpec.post enc Tryd.prog Tryd.f7 false true false false) := by
  refine law_lift_laid (C := Tryd.checked) (X := fun w => laidMetH Tryd.prog laidL w) (fun _ _ hh h => h.of_heap hh) own laidOut (by kernel_rfl) Tryd.func7 rfl rfl Tryd.underlying4 (by kernel_rfl) os started H enc
    (ChangeSpec.witness_at (enc := enc) (C := Tryd.checked) (os := os) (X := fun w _ => laidMetH Tryd.prog laidL w) false (laidWorld os) #[.slice none 0 0, .slice none 0 0, .slice none 0 0, .agg #[.int .u32 0, .int .i64 0]] 8 rfl (by kernel_rfl) (by kernel_rfl) (by kernel_rfl) (by kernel_rfl) (by kernel_rfl) (laidWorld_met os _)) ?_
  intro W base args ds p hval hA hlt hsz hX
  have hg := handle_of_laid hX
  clear hX
  rw [Tryd.params7] at hA hval hsz
  obtain ⟨v0, vs0, d0, ds0, p0, q0, hargs, rfl, rfl, h0, r0⟩ := trodAll_cons hA
  obtain ⟨v1, vs1, d1, ds1, p1, q1, rfl, rfl, rfl, h1, r1⟩ := trodAll_cons r0
  obtain ⟨v2, vs2, d2, ds2, p2, q2, rfl, rfl, rfl, h2, r2⟩ := trodAll_cons r1
  obtain ⟨v3, vs3, d3, ds3, p3, q3, rfl, rfl, rfl, h3, r3⟩ := trodAll_cons r2
  obtain ⟨rfl, rfl, rfl⟩ := trodAll_nil r3
  obtain rfl : args = #[v0, v1, v2, v3] := by cases args; simp_all
  obtain ⟨a0, x0, c0, rfl, k0, j0, i0, n0, y0, s0⟩ := arg_ints Tryd.underlying38 Tryd.underlying3 cellsInt (hval 0 38 v0 rfl rfl) h0 (fun x hx => hlt x (by simp [hx]))
  obtain ⟨a1, x1, c1, rfl, k1, j1, i1, n1, y1, s1⟩ := arg_recs (by decide) Hea.cells_len Tryd.underlying47 (by kernel_rfl) (open_hea Tryd.underlying51 (by kernel_rfl) rfl rfl rfl Tryd.underlying3 cellsNt2 Tryd.underlying37 (by kernel_rfl) rfl rfl Tryd.underlying35 Tryd.underlying3 cellsNt1 cellsNt2 Tryd.underlying3 cellsNt2) (hval 1 47 v1 rfl rfl) h1 (fun x hx => hlt x (by simp [hx]))
  obtain ⟨a2, x2, c2, rfl, k2, j2, i2, n2, y2, s2⟩ := arg_recs (by decide) bcells_len Tryd.underlying64 (by kernel_rfl) (open_bool1 Tryd.underlying4) (hval 2 64 v2 rfl rfl) h2 (fun x hx => hlt x (by simp [hx]))
  obtain ⟨x3, rfl, n3⟩ := arg_rec Tryd.underlying37 (open_net Tryd.underlying37 (by kernel_rfl) rfl rfl Tryd.underlying35 Tryd.underlying3 cellsNt1 cellsNt2) (hval 3 37 v3 rfl rfl) h3
  refine ⟨?_, rfl, rfl, rfl⟩
  exact bestEngine_any x0 a0 c0 x1 a1 c1 x2 a2 c2 x3.a x3.n W hg k1 n1 (slice_small (k := 32) hsz (j := 1) rfl rfl Tryd.underlying47 (by kernel_rfl) j1 s1) k0 (by have := slice_small (k := 8) hsz (j := 0) rfl rfl Tryd.underlying38 (by kernel_rfl) j0 s0; omega) k2 (by have := slice_small (k := 1) hsz (j := 2) rfl rfl Tryd.underlying64 (by kernel_rfl) j2 s2; omega) n3

theorem bestEngine_said : Rows.bestEngineRow.holds Tryd.pinned (OpenSpec.ofChange Rows.bestEngineSpec) :=
  OpenClaim.holds_of_wide 7 Tryd.f7 rfl rfl rfl rfl rfl rfl rfl ⟨rfl, rfl, rfl, rfl, rfl⟩ rfl rfl rfl rfl rfl (by kernel_rfl) Tryd.func7 (by kernel_rfl)
    (of_decide_eq_true (by kernel_rfl)) (by unfold Func.isWrapper; first | (rw [if_pos (by decide +kernel)]; kernel_rfl) | (rw [if_neg (by decide +kernel)]; exact ⟨rfl, rfl⟩))
    (fun os started H enc _ => bestEngine_lifted os started H enc)

theorem bestEngine_holds : Rows.BestEngineCardSaid :=
  Claim7.holds_tied_plain_at .later [] [.handle] true (true, "570a7a594db172276be7361a4698ed1185a4e81fe016e8aad76a6faef397796f") true
    bestEngine_said (fun _ h => by cases h) (by kernel_rfl) (fun _ h => by cases h) bestEngine_row_tie rfl ⟨rfl, rfl⟩ (by kernel_rfl) rfl
    (fun f fn hf hfn => by
      obtain rfl : f = 7 := Option.some.inj ((show Tryd.prog.funcNamed "waywarden/waywardenlaw3.BestEngine" = some 7 by kernel_rfl).symm.trans hf) |>.symm
      obtain rfl : fn = Tryd.f7 := (Option.some.inj (Tryd.func7.symm.trans hfn)).symm
      refine ⟨by kernel_rfl, fun j t ht => ?_⟩
      rw [Tryd.params7] at ht
      match j, ht with
      | 0, ht => exact (Option.some.inj ht) ▸ (show Tryd.prog.wantsStandIn 38 = false by kernel_rfl)
      | 1, ht => exact (Option.some.inj ht) ▸ (show Tryd.prog.wantsStandIn 47 = false by kernel_rfl)
      | 2, ht => exact (Option.some.inj ht) ▸ (show Tryd.prog.wantsStandIn 64 = false by kernel_rfl)
      | 3, ht => exact (Option.some.inj ht) ▸ (show Tryd.prog.wantsStandIn 37 = false by kernel_rfl)
      | j + 4, ht => simp at ht)
    (by kernel_rfl)
end Go.Proofs.YtfjempfffdeklaaDoor
