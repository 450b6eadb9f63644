import Derived.Test.YtfjempfffdeklaaDoorTrieOrd
import Derived.Test.YtfjempfffdeklaaDoorRowA
namespace Go.Proofs.YtfjempfffdeklaaDoor
open Go.ChangeShapes Go.WideShapes Go.ChangeAt Go.RowKit Go.Deep Go.Extern.Stop Go.Stop Go.Extern

set_option maxRecDepth 100000 in
theorem trieOrder_lifted (os : Os) (started : os.Started) (H : Type) (enc : TypeId × Value → H) :
    ReturnsInHanded {} Tryd.checked os 11 .any (fun w args => (Rows.trieOrderSpec.pre enc Tryd.prog Tryd.f11 [] false w args ∧ laidMetH Tryd.prog laidL w) ∧ sizedMet enc Tryd.prog Tryd.f11 (OpenSpec.ofChange Rows.trieOrderSpec) false w args) (Rows.trieOrderSpec.post enc Tryd.prog Tryd.f11 false true false false) := by
  refine law_lift_laid (C := Tryd.checked) (X := fun w => laidMetH Tryd.prog laidL w) (fun _ _ hh h => h.of_heap hh) own laidOut (by kernel_rfl) Tryd.func11 rfl rfl Tryd.underlying4 (by kernel_rfl) os started H enc
    (ChangeSpec.witness_at (enc := enc) (C := Tryd.checked) (os := os) (X := fun w _ => laidMetH Tryd.prog laidL w) false (laidWorld os) #[.slice none 0 0, .int .u32 0] 8 rfl (by kernel_rfl) (by kernel_rfl) (by kernel_rfl) (by kernel_rfl) (by kernel_rfl) (laidWorld_met os _)) ?_
  intro W base args ds p hval hA hlt hsz hX
  have hg := handle_of_laid hX
  clear hX
  rw [Tryd.params11] at hA hval hsz
  obtain ⟨v0, vs0, d0, ds0, p0, q0, hargs, rfl, rfl, h0, r0⟩ := trodAll_cons hA
  obtain ⟨v1, vs1, d1, ds1, p1, q1, rfl, rfl, rfl, h1, r1⟩ := trodAll_cons r0
  obtain ⟨rfl, rfl, rfl⟩ := trodAll_nil r1
  obtain rfl : args = #[v0, v1] := by cases args; simp_all
  obtain ⟨a0, x0, c0, rfl, k0, j0, i0, n0, y0, s0⟩ := arg_recs (by decide) Nt.cells_len Tryd.underlying65 (by kernel_rfl) (open_net Tryd.underlying37 (by kernel_rfl) rfl rfl Tryd.underlying35 Tryd.underlying3 cellsNt1 cellsNt2) (hval 0 65 v0 rfl rfl) h0 (fun x hx => hlt x (by simp [hx]))
  obtain ⟨x1, rfl, rfl, rfl, k1⟩ := open_int Tryd.underlying35 (hval 1 35 v1 rfl rfl) h1
  refine ⟨?_, rfl, rfl, rfl⟩
  have hmx : maxLen = 9223372036854775807 := rfl
  exact trieOrder_any x0 a0 c0 x1 W hg k0 (fun x hx => ⟨(n0 x hx).1, (n0 x hx).2.1⟩) (by omega) (u32_wf k1)

theorem trieOrder_said : Rows.trieOrderRow.holds Tryd.pinned (OpenSpec.ofChange Rows.trieOrderSpec) :=
  OpenClaim.holds_of_wide 11 Tryd.f11 rfl rfl rfl rfl rfl rfl rfl ⟨rfl, rfl, rfl, rfl, rfl⟩ rfl rfl rfl rfl rfl (by kernel_rfl) Tryd.func11 (by kernel_rfl)
    (of_decide_eq_true (by kernel_rfl)) (by unfold Func.isWrapper; first | (rw [if_pos (by decide +kernel)]; kernel_rfl) | (rw [if_neg (by decide +kernel)]; exact ⟨rfl, rfl⟩))
    (fun os started H enc _ => trieOrder_lifted os started H enc)

theorem trieOrder_holds : Rows.TrieOrderCardSaid :=
  Claim7.holds_tied_plain_at .later [] [.handle] true (true, "570a7a594db172276be7361a4698ed1185a4e81fe016e8aad76a6faef397796f") true
    trieOrder_said (fun _ h => by cases h) (by kernel_rfl) (fun _ h => by cases h) trieOrder_row_tie rfl ⟨rfl, rfl⟩ (by kernel_rfl) rfl
    (fun f fn hf hfn => by
      obtain rfl : f = 11 := Option.some.inj ((show Tryd.prog.funcNamed "waywarden/waywardenlaw6.TrieOrder" = some 11 by kernel_rfl).symm.trans hf) |>.symm
      obtain rfl : fn = Tryd.f11 := (Option.some.inj (Tryd.func11.symm.trans hfn)).symm
      refine ⟨by kernel_rfl, fun j t ht => ?_⟩
      rw [Tryd.params11] at ht
      match j, ht with
      | 0, ht => exact (Option.some.inj ht) ▸ (show Tryd.prog.wantsStandIn 65 = false by kernel_rfl)
      | 1, ht => exact (Option.some.inj ht) ▸ (show Tryd.prog.wantsStandIn 35 = false by kernel_rfl)
      | j + 2, ht => simp at ht)
    (by kernel_rfl)
end Go.Proofs.YtfjempfffdeklaaDoor
