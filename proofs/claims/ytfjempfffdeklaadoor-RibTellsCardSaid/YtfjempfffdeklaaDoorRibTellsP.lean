import Derived.Test.YtfjempfffdeklaaDoorRibTells
import Derived.Test.YtfjempfffdeklaaDoorSmall
namespace Go.Proofs.YtfjempfffdeklaaDoor
open Go.ChangeShapes Go.WideShapes Go.ChangeAt Go.RowKit Go.Deep Go.Extern.Stop Go.Stop Go.Extern

set_option maxRecDepth 100000 in
theorem ribTells_lifted (os : Os) (started : os.Started) (H : Type) (enc : TypeId × Value → H) :
    ReturnsInHanded {} Tryd.checked os 9 .any (fun w args => (Rows.ribTellsSpec.pre enc Tryd.prog Tryd.f9 [] false w args ∧ laidMetH Tryd.prog laidL w) ∧ sizedMet enc Tryd.prog Tryd.f9 (OpenSpec.ofChange Rows.ribTellsSpec) false w args) (Rows.ribTellsSpec.post enc Tryd.prog Tryd.f9 false true false false) := by
  refine law_lift_laid (C := Tryd.checked) (X := fun w => laidMetH Tryd.prog laidL w) (fun _ _ hh h => h.of_heap hh) own laidOut (by kernel_rfl) Tryd.func9 rfl rfl Tryd.underlying4 (by kernel_rfl) os started H enc
    (ChangeSpec.witness_at (enc := enc) (C := Tryd.checked) (os := os) (X := fun w _ => laidMetH Tryd.prog laidL w) false (laidWorld os) #[.slice none 0 0, .slice none 0 0, .slice none 0 0, .slice none 0 0, .slice none 0 0] 8 rfl (by kernel_rfl) (by kernel_rfl) (by kernel_rfl) (by kernel_rfl) (by kernel_rfl) (laidWorld_met os _)) ?_
  intro W base args ds p hval hA hlt hsz hX
  have hg := handle_of_laid hX
  clear hX
  rw [Tryd.params9] at hA hval hsz
  obtain ⟨v0, vs0, d0, ds0, p0, q0, hargs, rfl, rfl, h0, r0⟩ := trodAll_cons hA
  obtain ⟨v1, vs1, d1, ds1, p1, q1, rfl, rfl, rfl, h1, r1⟩ := trodAll_cons r0
  obtain ⟨v2, vs2, d2, ds2, p2, q2, rfl, rfl, rfl, h2, r2⟩ := trodAll_cons r1
  obtain ⟨v3, vs3, d3, ds3, p3, q3, rfl, rfl, rfl, h3, r3⟩ := trodAll_cons r2
  obtain ⟨v4, vs4, d4, ds4, p4, q4, rfl, rfl, rfl, h4, r4⟩ := trodAll_cons r3
  obtain ⟨rfl, rfl, rfl⟩ := trodAll_nil r4
  obtain rfl : args = #[v0, v1, v2, v3, v4] := by cases args; simp_all
  obtain ⟨a0, x0, c0, rfl, k0, j0, i0, n0, y0, s0⟩ := arg_ints Tryd.underlying38 Tryd.underlying3 cellsInt (hval 0 38 v0 rfl rfl) h0 (fun x hx => hlt x (by simp [hx]))
  obtain ⟨a1, x1, c1, rfl, k1, j1, i1, n1, y1, s1⟩ := arg_ints Tryd.underlying38 Tryd.underlying3 cellsInt (hval 1 38 v1 rfl rfl) h1 (fun x hx => hlt x (by simp [hx]))
  obtain ⟨a2, x2, c2, rfl, k2, j2, i2, n2, y2, s2⟩ := arg_recs (by decide) Nt.cells_len Tryd.underlying65 (by kernel_rfl) (open_net Tryd.underlying37 (by kernel_rfl) rfl rfl Tryd.underlying35 Tryd.underlying3 cellsNt1 cellsNt2) (hval 2 65 v2 rfl rfl) h2 (fun x hx => hlt x (by simp [hx]))
  obtain ⟨a3, x3, c3, rfl, k3, j3, i3, n3, y3, s3⟩ := arg_ints Tryd.underlying38 Tryd.underlying3 cellsInt (hval 3 38 v3 rfl rfl) h3 (fun x hx => hlt x (by simp [hx]))
  obtain ⟨a4, x4, c4, rfl, k4, j4, i4, n4, y4, s4⟩ := arg_ints Tryd.underlying38 Tryd.underlying3 cellsInt (hval 4 38 v4 rfl rfl) h4 (fun x hx => hlt x (by simp [hx]))
  refine ⟨?_, rfl, rfl, rfl⟩
  exact ribTells_any x0 x1 x2 x3 x4 a0 a1 a2 a3 a4 c0 c1 c2 c3 c4 W hg k0 k1 k2 n2 k3 k4 (by have := slice_small (k := 8) hsz (j := 0) rfl rfl Tryd.underlying38 (by kernel_rfl) j0 s0; omega) (by have := slice_small (k := 8) hsz (j := 1) rfl rfl Tryd.underlying38 (by kernel_rfl) j1 s1; omega) (by have := slice_small (k := 16) hsz (j := 2) rfl rfl Tryd.underlying65 (by kernel_rfl) j2 s2; omega) (by have := slice_small (k := 8) hsz (j := 3) rfl rfl Tryd.underlying38 (by kernel_rfl) j3 s3; omega) (by have := slice_small (k := 8) hsz (j := 4) rfl rfl Tryd.underlying38 (by kernel_rfl) j4 s4; omega)

theorem ribTells_said : Rows.ribTellsRow.holds Tryd.pinned (OpenSpec.ofChange Rows.ribTellsSpec) :=
  OpenClaim.holds_of_wide 9 Tryd.f9 rfl rfl rfl rfl rfl rfl rfl ⟨rfl, rfl, rfl, rfl, rfl⟩ rfl rfl rfl rfl rfl (by kernel_rfl) Tryd.func9 (by kernel_rfl)
    (of_decide_eq_true (by kernel_rfl)) (by unfold Func.isWrapper; first | (rw [if_pos (by decide +kernel)]; kernel_rfl) | (rw [if_neg (by decide +kernel)]; exact ⟨rfl, rfl⟩))
    (fun os started H enc _ => ribTells_lifted os started H enc)

theorem ribTells_holds : Rows.RibTellsCardSaid :=
  Claim7.holds_tied_plain_at .later [] [.handle] true (true, "570a7a594db172276be7361a4698ed1185a4e81fe016e8aad76a6faef397796f") true
    ribTells_said (fun _ h => by cases h) (by kernel_rfl) (fun _ h => by cases h) ribTells_row_tie rfl ⟨rfl, rfl⟩ (by kernel_rfl) rfl
    (fun f fn hf hfn => by
      obtain rfl : f = 9 := Option.some.inj ((show Tryd.prog.funcNamed "waywarden/waywardenlaw3.RibTells" = some 9 by kernel_rfl).symm.trans hf) |>.symm
      obtain rfl : fn = Tryd.f9 := (Option.some.inj (Tryd.func9.symm.trans hfn)).symm
      refine ⟨by kernel_rfl, fun j t ht => ?_⟩
      rw [Tryd.params9] at ht
      match j, ht with
      | 0, ht => exact (Option.some.inj ht) ▸ (show Tryd.prog.wantsStandIn 38 = false by kernel_rfl)
      | 1, ht => exact (Option.some.inj ht) ▸ (show Tryd.prog.wantsStandIn 38 = false by kernel_rfl)
      | 2, ht => exact (Option.some.inj ht) ▸ (show Tryd.prog.wantsStandIn 65 = false by kernel_rfl)
      | 3, ht => exact (Option.some.inj ht) ▸ (show Tryd.prog.wantsStandIn 38 = false by kernel_rfl)
      | 4, ht => exact (Option.some.inj ht) ▸ (show Tryd.prog.wantsStandIn 38 = false by kernel_rfl)
      | j + 5, ht => simp at ht)
    (by kernel_rfl)
end Go.Proofs.YtfjempfffdeklaaDoor
