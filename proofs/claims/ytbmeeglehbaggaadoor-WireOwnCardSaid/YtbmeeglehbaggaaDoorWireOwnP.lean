import Derived.Test.YtbmeeglehbaggaaDoorWireOwn
import Derived.Test.YtbmeeglehbaggaaDoorArgMsg
import Derived.Test.YtbmeeglehbaggaaDoorSmall
namespace Go.Proofs.YtbmeeglehbaggaaDoor
open Go.ChangeShapes Go.WideShapes Go.ChangeAt Go.RowKit Go.Deep Go.Extern.Stop Go.Stop Go.Extern

theorem u8_wf {x : Int} (h : (Lit.int .u8 x).wf = true) : 0 ≤ x ∧ x < 256 := by
  have h1 : IntKind.u8.min = 0 := rfl
  have h2 : IntKind.u8.max = 255 := rfl
  simp only [Lit.wf, Bool.and_eq_true, decide_eq_true_eq] at h
  omega
theorem cellsByte : Tryd.prog.cellsOf 5 = 1 := by kernel_rfl
set_option maxRecDepth 100000 in
theorem wireOwn_lifted (os : Os) (started : os.Started) (H : Type) (enc : TypeId × Value → H) :
    ReturnsInHanded {} Tryd.checked os 7 .any (fun w args => (Rows.wireOwnSpec.pre enc Tryd.prog Tryd.f7 [] false w args ∧ laidMetH Tryd.prog laidL w) ∧ sizedMet enc Tryd.prog Tryd.f7 (OpenSpec.ofChange Rows.wireOwnSpec) false w args) (Rows.wireOwnSpec.post enc Tryd.prog Tryd.f7 false true false false) := by
  refine law_lift_laid (C := Tryd.checked) (X := fun w => laidMetH Tryd.prog laidL w) (fun _ _ hh h => h.of_heap hh) own laidOut (by kernel_rfl) Tryd.func7 rfl rfl Tryd.underlying4 (by kernel_rfl) os started H enc
    (ChangeSpec.witness_at (enc := enc) (C := Tryd.checked) (os := os) (X := fun w _ => laidMetH Tryd.prog laidL w) false (laidWorld os) #[.agg #[.bool false, .slice none 0 0], .slice none 0 0, .int .u8 0] 8 rfl (by kernel_rfl) (by kernel_rfl) (by kernel_rfl) (by kernel_rfl) (by kernel_rfl) (laidWorld_met os _)) ?_
  intro W base args ds p hval hA hlt hsz hX
  have hg := handle_of_laid hX
  clear hX
  rw [Tryd.params7] at hA hval hsz
  obtain ⟨v0, vs0, d0, ds0, p0, q0, hargs, rfl, rfl, h0, r0⟩ := trodAll_cons hA
  obtain ⟨v1, vs1, d1, ds1, p1, q1, rfl, rfl, rfl, h1, r1⟩ := trodAll_cons r0
  obtain ⟨v2, vs2, d2, ds2, p2, q2, rfl, rfl, rfl, h2, r2⟩ := trodAll_cons r1
  obtain ⟨rfl, rfl, rfl⟩ := trodAll_nil r2
  obtain rfl : args = #[v0, v1, v2] := by cases args; simp_all
  obtain ⟨b0, a0, x0, c0, rfl, k0, j0, i0, n0, s0⟩ := arg_msg Tryd.underlying59 (by kernel_rfl) rfl rfl Tryd.underlying4 (by kernel_rfl) Tryd.underlying57 (by kernel_rfl) (by kernel_rfl) (open_ent Tryd.underlying66 (by kernel_rfl) rfl rfl rfl rfl Tryd.underlying38 (by kernel_rfl) rfl rfl Tryd.underlying36 Tryd.underlying3 cellsNt1 cellsNt2 Tryd.underlying3 cellsNt2 Tryd.underlying36 cellsNt1 Tryd.underlying3 cellsNt2) (hval 0 59 v0 rfl rfl) h0 (fun x hx => hlt x (by simp [hx]))
  obtain ⟨a1, x1, c1, rfl, k1, j1, i1, n1, y1, s1⟩ := arg_ints Tryd.underlying60 Tryd.underlying5 cellsByte (hval 1 60 v1 rfl rfl) h1 (fun x hx => hlt x (by simp [hx]))
  obtain ⟨x2, rfl, rfl, rfl, k2⟩ := open_int Tryd.underlying5 (hval 2 5 v2 rfl rfl) h2
  refine ⟨?_, rfl, rfl, rfl⟩
  exact wireOwn_any b0 x0 a0 c0 x1 a1 c1 x2 W hg k0 (fun e he => ⟨⟨(n0 e he).1.1, (n0 e he).1.2.1⟩, (n0 e he).2.2.1⟩) (by
    have hr : reachBytes = 140737488351232 := rfl
    rcases s0 with h | ⟨u0, el, sp, rfl, h⟩
    · omega
    · have h2 := part_small (k := 1) hsz (j := 0) rfl rfl Tryd.underlying59 rfl rfl Tryd.underlying57
      have hbo : Tryd.checked.prog.bytesOf 66 = 40 := by kernel_rfl
      rw [hbo, hr] at h2
      omega) k1 (fun x hx => u8_wf (n1 x hx)) j1 (by have := slice_small (k := 1) hsz (j := 1) rfl rfl Tryd.underlying60 (by kernel_rfl) j1 s1; omega) rfl rfl (u8_wf k2)

theorem wireOwn_said : Rows.wireOwnRow.holds Tryd.pinned (OpenSpec.ofChange Rows.wireOwnSpec) :=
  OpenClaim.holds_of_wide 7 Tryd.f7 rfl rfl rfl rfl rfl rfl rfl ⟨rfl, rfl, rfl, rfl, rfl⟩ rfl rfl rfl rfl rfl (by kernel_rfl) Tryd.func7 (by kernel_rfl)
    (of_decide_eq_true (by kernel_rfl)) (by unfold Func.isWrapper; first | (rw [if_pos (by decide +kernel)]; kernel_rfl) | (rw [if_neg (by decide +kernel)]; exact ⟨rfl, rfl⟩))
    (fun os started H enc _ => wireOwn_lifted os started H enc)

theorem wireOwn_holds : Rows.WireOwnCardSaid :=
  Claim7.holds_tied_plain_at .later [] [.handle] true (true, "1a9e3f63fa0295df7dabe07c85cab3429ad847de1523d9746532fcdb70b2f063") true
    wireOwn_said (fun _ h => by cases h) (by kernel_rfl) (fun _ h => by cases h) wireOwn_row_tie rfl ⟨rfl, rfl⟩ (by kernel_rfl) rfl
    (fun f fn hf hfn => by
      obtain rfl : f = 7 := Option.some.inj ((show Tryd.prog.funcNamed "waywarden/waywardenlaw7.WireOwn" = some 7 by kernel_rfl).symm.trans hf) |>.symm
      obtain rfl : fn = Tryd.f7 := (Option.some.inj (Tryd.func7.symm.trans hfn)).symm
      refine ⟨by kernel_rfl, fun j t ht => ?_⟩
      rw [Tryd.params7] at ht
      match j, ht with
      | 0, ht => exact (Option.some.inj ht) ▸ (show Tryd.prog.wantsStandIn 59 = false by kernel_rfl)
      | 1, ht => exact (Option.some.inj ht) ▸ (show Tryd.prog.wantsStandIn 60 = false by kernel_rfl)
      | 2, ht => exact (Option.some.inj ht) ▸ (show Tryd.prog.wantsStandIn 5 = false by kernel_rfl)
      | j + 3, ht => simp at ht)
    (by kernel_rfl)
end Go.Proofs.YtbmeeglehbaggaaDoor
