import Derived.Test.YtfjempfffdeklaaDoorSppOwn
import Derived.Test.YtfjempfffdeklaaDoorSmall
namespace Go.Proofs.YtfjempfffdeklaaDoor
open Go.ChangeShapes Go.WideShapes Go.ChangeAt Go.RowKit Go.Deep Go.Extern.Stop Go.Stop Go.Extern

theorem bytesI1 : Tryd.checked.prog.bytesOf 3 = 8 := by kernel_rfl
theorem bytesI2 : Tryd.checked.prog.bytesOf 38 = 24 := by kernel_rfl
theorem rws_small {H : Type} {ts : List TypeId} {ds : List (DataW H)} {j : Nat} (hsz : (DataW.weightsEach Tryd.checked.prog ts ds).all (· ≤ reachBytes) = true) {W : World} {L : List Rw} {p : List MemPlace} {d : DataW H} (ht : ts[j]? = some 114) (hd : ds[j]? = some d)
    (hn : ∀ x ∈ L, ∃ dd pl, rwOpen W x dd pl ∧ (∀ y ∈ pl, y ∈ p) ∧ ∃ el sp, d = .slice el sp ∧ dd ∈ el) : ∀ x ∈ L, x.rs.length * 24 ≤ 140737488351232 ∧ ∀ k, k < x.rs.length → (nth x.rs k).length * 8 ≤ 140737488351232 := by
  intro x hx
  obtain ⟨dd, pl, ho, -, el, sp, rfl, hdd⟩ := hn x hx
  obtain ⟨-, h1, -, -, -, h5, h6, h7⟩ := ho
  have hr : reachBytes = 140737488351232 := rfl
  constructor
  · rcases h6 with h | ⟨e', s', rfl, h⟩
    · omega
    · have := sized_rows hsz ht hd Tryd.underlying114 Tryd.underlying115 hdd
      rw [bytesI2] at this
      omega
  · intro k hk
    rcases h7 k hk with h | ⟨e', s', e2, s2, rfl, h2, h3⟩
    · rw [h]; decide
    · have := sized_rows1 hsz ht hd Tryd.underlying114 Tryd.underlying115 Tryd.underlying38 hdd h2
      rw [bytesI1] at this
      have := h5 k hk
      omega
theorem rws_likes {H : Type} {W : World} {L : List Rw} {a : Option Addr} {p : List MemPlace} {d : DataW H} (hk : Recs W.heap a 1 Rw.cells L) (hn : ∀ x ∈ L, ∃ dd pl, rwOpen W x dd pl ∧ (∀ y ∈ pl, y ∈ p) ∧ ∃ el sp, d = .slice el sp ∧ dd ∈ el) (hlt : ∀ x ∈ p, x.block < W.heap.size)
    (hs : ∀ x ∈ L, x.rs.length * 24 ≤ 140737488351232 ∧ ∀ k, k < x.rs.length → (nth x.rs k).length * 8 ≤ 140737488351232) : Likes W.heap a L (fun k => k < W.heap.size) := by
  refine Likes.old hk (fun x hx => ?_) (fun x hx => ?_) (fun x hx => by have := (hs x hx).1; omega)
  · obtain ⟨dd, pl, ho, hp, -⟩ := hn x hx
    exact ho.1 (fun y hy => hlt y (hp y hy))
  · obtain ⟨dd, pl, ho, -⟩ := hn x hx
    exact ho.2.2.2.2.2.1

set_option maxRecDepth 100000 in
theorem sppOwn_lifted (os : Os) (started : os.Started) (H : Type) (enc : TypeId × Value → H) :
    ReturnsInHanded {} Tryd.checked os 12 .any (fun w args => (Rows.sppOwnSpec.pre enc Tryd.prog Tryd.f12 [] false w args ∧ laidMetH Tryd.prog laidL w) ∧ sizedMet enc Tryd.prog Tryd.f12 (OpenSpec.ofChange Rows.sppOwnSpec) false w args) (Rows.sppOwnSpec.post enc Tryd.prog Tryd.f12 false true false false) := by
  refine law_lift_laid (C := Tryd.checked) (X := fun w => laidMetH Tryd.prog laidL w) (fun _ _ hh h => h.of_heap hh) own laidOut (by kernel_rfl) Tryd.func12 rfl rfl Tryd.underlying4 (by kernel_rfl) os started H enc
    (ChangeSpec.witness_at (enc := enc) (C := Tryd.checked) (os := os) (X := fun w _ => laidMetH Tryd.prog laidL w) false (laidWorld os) #[.slice none 0 0, .slice none 0 0, .int .i64 0] 8 rfl (by kernel_rfl) (by kernel_rfl) (by kernel_rfl) (by kernel_rfl) (by kernel_rfl) (laidWorld_met os _)) ?_
  intro W base args ds p hval hA hlt hsz hX
  have hg := handle_of_laid hX
  clear hX
  rw [Tryd.params12] at hA hval hsz
  obtain ⟨v0, vs0, d0, ds0, p0, q0, hargs, rfl, rfl, h0, r0⟩ := trodAll_cons hA
  obtain ⟨v1, vs1, d1, ds1, p1, q1, rfl, rfl, rfl, h1, r1⟩ := trodAll_cons r0
  obtain ⟨v2, vs2, d2, ds2, p2, q2, rfl, rfl, rfl, h2, r2⟩ := trodAll_cons r1
  obtain ⟨rfl, rfl, rfl⟩ := trodAll_nil r2
  obtain rfl : args = #[v0, v1, v2] := by cases args; simp_all
  obtain ⟨a0, x0, c0, rfl, k0, j0, i0, n0, y0, s0⟩ := arg_recsP (wf := rwOpen W) (by decide) Rw.cells_len Tryd.underlying114 (by kernel_rfl) (open_rw Tryd.underlying115 Tryd.underlying38 Tryd.underlying3 (by kernel_rfl) (by kernel_rfl)) (hval 0 114 v0 rfl rfl) h0 (fun x hx => hlt x (by simp [hx]))
  obtain ⟨a1, x1, c1, rfl, k1, j1, i1, n1, y1, s1⟩ := arg_ints Tryd.underlying38 Tryd.underlying3 cellsInt (hval 1 38 v1 rfl rfl) h1 (fun x hx => hlt x (by simp [hx]))
  obtain ⟨x2, rfl, rfl, rfl, k2⟩ := open_int Tryd.underlying3 (hval 2 3 v2 rfl rfl) h2
  refine ⟨?_, rfl, rfl, rfl⟩
  
  have hs0 := rws_small (j := 0) hsz rfl rfl n0
  exact sppOwn_any x0 a0 c0 x1 a1 c1 x2 W hg (rws_likes k0 n0 (fun x hx => hlt x (by simp [hx])) hs0) (by have := slice_small (k := 24) hsz (j := 0) rfl rfl Tryd.underlying114 (by kernel_rfl) j0 s0; omega) k1 (by have := slice_small (k := 8) hsz (j := 1) rfl rfl Tryd.underlying38 (by kernel_rfl) j1 s1; omega) (fun x hx => (hs0 x hx).1) (fun x hx => (hs0 x hx).2)

theorem sppOwn_said : Rows.sppOwnRow.holds Tryd.pinned (OpenSpec.ofChange Rows.sppOwnSpec) :=
  OpenClaim.holds_of_wide 12 Tryd.f12 rfl rfl rfl rfl rfl rfl rfl ⟨rfl, rfl, rfl, rfl, rfl⟩ rfl rfl rfl rfl rfl (by kernel_rfl) Tryd.func12 (by kernel_rfl)
    (of_decide_eq_true (by kernel_rfl)) (by unfold Func.isWrapper; first | (rw [if_pos (by decide +kernel)]; kernel_rfl) | (rw [if_neg (by decide +kernel)]; exact ⟨rfl, rfl⟩))
    (fun os started H enc _ => sppOwn_lifted os started H enc)

theorem sppOwn_holds : Rows.SppOwnCardSaid :=
  Claim7.holds_tied_plain_at .later [] [.handle] true (true, "570a7a594db172276be7361a4698ed1185a4e81fe016e8aad76a6faef397796f") true
    sppOwn_said (fun _ h => by cases h) (by kernel_rfl) (fun _ h => by cases h) sppOwn_row_tie rfl ⟨rfl, rfl⟩ (by kernel_rfl) rfl
    (fun f fn hf hfn => by
      obtain rfl : f = 12 := Option.some.inj ((show Tryd.prog.funcNamed "waywarden/waywardenlaw7.SppOwn" = some 12 by kernel_rfl).symm.trans hf) |>.symm
      obtain rfl : fn = Tryd.f12 := (Option.some.inj (Tryd.func12.symm.trans hfn)).symm
      refine ⟨by kernel_rfl, fun j t ht => ?_⟩
      rw [Tryd.params12] at ht
      match j, ht with
      | 0, ht => exact (Option.some.inj ht) ▸ (show Tryd.prog.wantsStandIn 114 = false by kernel_rfl)
      | 1, ht => exact (Option.some.inj ht) ▸ (show Tryd.prog.wantsStandIn 38 = false by kernel_rfl)
      | 2, ht => exact (Option.some.inj ht) ▸ (show Tryd.prog.wantsStandIn 3 = false by kernel_rfl)
      | j + 3, ht => simp at ht)
    (by kernel_rfl)
end Go.Proofs.YtfjempfffdeklaaDoor
