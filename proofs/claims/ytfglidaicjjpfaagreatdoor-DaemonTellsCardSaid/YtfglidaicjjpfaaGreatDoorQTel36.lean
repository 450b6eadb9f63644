import Derived.Test.YtfglidaicjjpfaaGreatDoorQTel32
import Derived.Test.YtfglidaicjjpfaaGreatDoorQTel34
import Derived.Test.YtfglidaicjjpfaaGreatDoorQTel35
section
namespace Go
open Go.ChangeShapes Go.WideShapes Go.ChangeAt Go.RowKit
/-- How many bytes a slice that came in may take. -/
theorem slice_small {H : Type} {P : Program} {ts : List TypeId} {ds : List (DataW H)} {j n c k : Nat} {t e : TypeId} (hsz : (DataW.weightsEach P ts ds).all (· ≤ reachBytes) = true) {d : DataW H} (ht : ts[j]? = some t) (hd : ds[j]? = some d)
    (hu : P.underlying t = some (.slice e)) (hk : P.bytesOf e = k) (hn : n ≤ c) (hs : c = 0 ∨ ∃ el sp, d = .slice el sp ∧ el.length + sp.length = c) : n * k ≤ 140737488351232 := by
  subst hk
  rcases hs with h | ⟨el, sp, rfl, h⟩
  · have : n = 0 := by omega
    subst this; simp
  · have := sized_slice hsz ht hd hu
    have hr : reachBytes = 140737488351232 := rfl
    rw [h, hr] at this
    exact Nat.le_trans (Nat.mul_le_mul_right _ hn) this
/-- How many bytes a slice within a record of a slice that came in may take. -/
theorem field_small {H : Type} {P : Program} {ts : List TypeId} {ds : List (DataW H)} {j k : Nat} {t e q r : TypeId} {fs : Array Field} {el sp e' s' parts : List (DataW H)} (hsz : (DataW.weightsEach P ts ds).all (· ≤ reachBytes) = true) (ht : ts[j]? = some t) (hd : ds[j]? = some (.slice el sp))
    (hu : P.underlying t = some (.slice e)) (he : P.underlying e = some (.struct fs)) (hm : DataW.agg parts ∈ el) (hp : parts[k]? = some (.slice e' s')) (hf : (fs.toList.map (·.type))[k]? = some q) (hq : P.underlying q = some (.slice r)) : (e'.length + s'.length) * P.bytesOf r ≤ reachBytes := by
  refine of_decide_eq_true (List.all_eq_true.1 hsz _ (DataW.weights_mem_each ht hd _ ?_))
  have key : ∀ l : List (DataW H), DataW.agg parts ∈ l → (e'.length + s'.length) * P.bytesOf r ∈ DataW.weightsAll P e l := by
    intro l
    induction l with
    | nil => intro h; cases h
    | cons x l ih =>
      intro h
      simp only [DataW.weightsAll, List.mem_append]
      rcases List.mem_cons.1 h with rfl | h
      · left
        simp only [DataW.weights, he]
        exact DataW.weights_mem_each hf hp _ (by simp [DataW.weights, hq])
      · right; exact ih h
  simp only [DataW.weights, hu, List.mem_cons, List.mem_append]
  exact .inr (.inl (key el hm))
end Go
end

section
namespace Go
open Go.ChangeShapes Go.WideShapes Go.ChangeAt Go.RowKit Go.Deep Go.Proofs.YtfglidaicjjpfaaGreatDoor
/-- Messages that came in. -/
theorem msgs_of {H : Type} {P : Program} {W : World} {ts : List TypeId} {ds : List (DataW H)} {j : Nat} {t e q r : TypeId} {fs : Array Field} {d : DataW H} {p : List MemPlace} {a : Option Addr} {l : List MsgR} (hsz : (DataW.weightsEach P ts ds).all (· ≤ reachBytes) = true) (ht : ts[j]? = some t) (hd : ds[j]? = some d)
    (hu : P.underlying t = some (.slice e)) (he : P.underlying e = some (.struct fs)) (hf : (fs.toList.map (·.type))[1]? = some q) (hq : P.underlying q = some (.slice r)) (hb : P.bytesOf r = 40)
    (hI : Recs W.heap a 2 MsgR.cells l) (hlt : ∀ y ∈ p, y.block < W.heap.size) (hn : ∀ x ∈ l, ∃ dd pl, msgOpen W x dd pl ∧ (∀ y ∈ pl, y ∈ p) ∧ ∃ el sp, d = .slice el sp ∧ dd ∈ el) : Msgs W.heap a l := by
  refine ⟨hI, fun x hx => ?_⟩
  obtain ⟨dd, pl, ⟨hw, hR, hs⟩, hp, el, sp, rfl, hm⟩ := hn x hx
  refine ⟨hR (fun y hy => hlt y (hp y hy)), fun e' he' => enW_wf (hw.2.2 e' he'), ?_⟩
  have h1 := hw.1
  rcases hs with h | ⟨u0, el', sp', rfl, h⟩
  · omega
  · have h2 := field_small (k := 1) hsz ht hd hu he hm rfl hf hq
    have hr : reachBytes = 140737488351232 := rfl
    rw [hb, hr] at h2
    omega
end Go
end

section
namespace Go.Proofs.YtfglidaicjjpfaaGreatDoor
open Go.ChangeShapes Go.WideShapes Go.ChangeAt Go.RowKit Go.Deep Go.Extern.Stop Go.Stop Go.Extern

theorem u8_wf {x : Int} (h : (Lit.int .u8 x).wf = true) : 0 ≤ x ∧ x < 256 := by
  have h1 : IntKind.u8.min = 0 := rfl
  have h2 : IntKind.u8.max = 255 := rfl
  simp only [Lit.wf, Bool.and_eq_true, decide_eq_true_eq] at h
  omega
theorem cellsByte : Tryz.prog.cellsOf 5 = 1 := by kernel_rfl
set_option maxRecDepth 100000 in
theorem daemonTells_lifted (os : Os) (started : os.Started) (H : Type) (enc : TypeId × Value → H) :
    ReturnsInHanded {} Tryz.checked os 4 .any (fun w args => (Rows.daemonTellsSpec.pre enc Tryz.prog Tryz.f4 [] false w args ∧ laidMetH Tryz.prog laidL w) ∧ sizedMet enc Tryz.prog Tryz.f4 (OpenSpec.ofChange Rows.daemonTellsSpec) false w args) (Rows.daemonTellsSpec.post enc Tryz.prog Tryz.f4 false true false false) := by
  refine law_lift_laid (C := Tryz.checked) (X := fun w => laidMetH Tryz.prog laidL w) (fun _ _ hh h => h.of_heap hh) own laidOut (by kernel_rfl) Tryz.func4 rfl rfl Tryz.underlying4 (by kernel_rfl) os started H enc
    (ChangeSpec.witness_at (enc := enc) (C := Tryz.checked) (os := os) (X := fun w _ => laidMetH Tryz.prog laidL w) false (laidWorld os) #[.slice none 0 0, .slice none 0 0, .slice none 0 0, .slice none 0 0, .slice none 0 0, .slice none 0 0, .slice none 0 0, .int .i64 0] 8 rfl (by kernel_rfl) (by kernel_rfl) (by kernel_rfl) (by kernel_rfl) (by kernel_rfl) (laidWorld_met os _)) ?_
  intro W base args ds p hval hA hlt hsz hX
  have hg := handle_of_laid hX
  clear hX
  rw [Tryz.params4] at hA hval hsz
  obtain ⟨v0, vs0, d0, ds0, p0, q0, hargs, rfl, rfl, h0, r0⟩ := trodAll_cons hA
  obtain ⟨v1, vs1, d1, ds1, p1, q1, rfl, rfl, rfl, h1, r1⟩ := trodAll_cons r0
  obtain ⟨v2, vs2, d2, ds2, p2, q2, rfl, rfl, rfl, h2, r2⟩ := trodAll_cons r1
  obtain ⟨v3, vs3, d3, ds3, p3, q3, rfl, rfl, rfl, h3, r3⟩ := trodAll_cons r2
  obtain ⟨v4, vs4, d4, ds4, p4, q4, rfl, rfl, rfl, h4, r4⟩ := trodAll_cons r3
  obtain ⟨v5, vs5, d5, ds5, p5, q5, rfl, rfl, rfl, h5, r5⟩ := trodAll_cons r4
  obtain ⟨v6, vs6, d6, ds6, p6, q6, rfl, rfl, rfl, h6, r6⟩ := trodAll_cons r5
  obtain ⟨v7, vs7, d7, ds7, p7, q7, rfl, rfl, rfl, h7, r7⟩ := trodAll_cons r6
  obtain ⟨rfl, rfl, rfl⟩ := trodAll_nil r7
  obtain rfl : args = #[v0, v1, v2, v3, v4, v5, v6, v7] := by cases args; simp_all
  obtain ⟨a0, x0, c0, rfl, k0, j0, i0, n0, y0, s0⟩ := arg_ints Tryz.underlying22 Tryz.underlying3 cellsInt (hval 0 22 v0 rfl rfl) h0 (fun x hx => hlt x (by simp [hx]))
  obtain ⟨a1, x1, c1, rfl, k1, j1, i1, n1, y1, s1⟩ := arg_recs (by decide) Nt.cells_len Tryz.underlying23 (by kernel_rfl) (open_net Tryz.underlying52 (by kernel_rfl) rfl rfl Tryz.underlying50 Tryz.underlying3 cellsNt1 cellsNt2) (hval 1 23 v1 rfl rfl) h1 (fun x hx => hlt x (by simp [hx]))
  obtain ⟨a2, x2, c2, rfl, k2, j2, i2, n2, y2, s2⟩ := arg_ints Tryz.underlying22 Tryz.underlying3 cellsInt (hval 2 22 v2 rfl rfl) h2 (fun x hx => hlt x (by simp [hx]))
  obtain ⟨a3, x3, c3, rfl, k3, j3, i3, n3, y3, s3⟩ := arg_ints Tryz.underlying22 Tryz.underlying3 cellsInt (hval 3 22 v3 rfl rfl) h3 (fun x hx => hlt x (by simp [hx]))
  obtain ⟨a4, x4, c4, rfl, k4, j4, i4, n4, y4, s4⟩ := arg_ints Tryz.underlying22 Tryz.underlying3 cellsInt (hval 4 22 v4 rfl rfl) h4 (fun x hx => hlt x (by simp [hx]))
  obtain ⟨a5, x5, c5, rfl, k5, j5, i5, n5, y5, s5⟩ := arg_recsP (wf := msgOpen W) (by decide) MsgR.cells_len Tryz.underlying47 (by kernel_rfl) (open_msg1 Tryz.underlying26 (by kernel_rfl) rfl rfl Tryz.underlying4 (by kernel_rfl) Tryz.underlying24 (by kernel_rfl) (by kernel_rfl) (open_ent Tryz.underlying87 (by kernel_rfl) rfl rfl rfl rfl Tryz.underlying52 (by kernel_rfl) rfl rfl Tryz.underlying50 Tryz.underlying3 cellsNt1 cellsNt2 Tryz.underlying3 cellsNt2 Tryz.underlying50 cellsNt1 Tryz.underlying3 cellsNt2)) (hval 5 47 v5 rfl rfl) h5 (fun x hx => hlt x (by simp [hx]))
  obtain ⟨a6, x6, c6, rfl, k6, j6, i6, n6, y6, s6⟩ := arg_ints Tryz.underlying27 Tryz.underlying5 cellsByte (hval 6 27 v6 rfl rfl) h6 (fun x hx => hlt x (by simp [hx]))
  obtain ⟨x7, rfl, rfl, rfl, k7⟩ := open_int Tryz.underlying3 (hval 7 3 v7 rfl rfl) h7
  refine ⟨?_, rfl, rfl, rfl⟩
  have hM := msgs_of hsz (j := 5) rfl rfl Tryz.underlying47 Tryz.underlying26 rfl Tryz.underlying24 (by kernel_rfl) k5 (fun x hx => hlt x (by simp [hx])) n5
  exact daemonTells_any x0 a0 c0 x1 a1 c1 x2 x3 x4 a2 a3 a4 c2 c3 c4 x5 a5 c5 x6 a6 c6 x7 W hg k0 (slice_small (k := 8) hsz (j := 0) rfl rfl Tryz.underlying22 (by kernel_rfl) j0 s0) y0 k1 (fun x hx => ⟨(n1 x hx).1, (n1 x hx).2.1⟩) (slice_small (k := 16) hsz (j := 1) rfl rfl Tryz.underlying23 (by kernel_rfl) j1 s1) y1 j1
    k2 k3 k4 (by have := slice_small (k := 8) hsz (j := 2) rfl rfl Tryz.underlying22 (by kernel_rfl) j2 s2; omega) (by have := slice_small (k := 8) hsz (j := 3) rfl rfl Tryz.underlying22 (by kernel_rfl) j3 s3; omega) (by have := slice_small (k := 8) hsz (j := 4) rfl rfl Tryz.underlying22 (by kernel_rfl) j4 s4; omega)
    hM (by have := slice_small (k := 32) hsz (j := 5) rfl rfl Tryz.underlying47 (by kernel_rfl) j5 s5; omega) k6 (fun x hx => u8_wf (n6 x hx)) j6 (by have := slice_small (k := 1) hsz (j := 6) rfl rfl Tryz.underlying27 (by kernel_rfl) j6 s6; omega)

theorem daemonTells_said : Rows.daemonTellsRow.holds Tryz.pinned (OpenSpec.ofChange Rows.daemonTellsSpec) :=
  OpenClaim.holds_of_wide 4 Tryz.f4 rfl rfl rfl rfl rfl rfl rfl ⟨rfl, rfl, rfl, rfl, rfl⟩ rfl rfl rfl rfl rfl (by kernel_rfl) Tryz.func4 (by kernel_rfl)
    (of_decide_eq_true (by kernel_rfl)) (by unfold Func.isWrapper; first | (rw [if_pos (by decide +kernel)]; kernel_rfl) | (rw [if_neg (by decide +kernel)]; exact ⟨rfl, rfl⟩))
    (fun os started H enc _ => daemonTells_lifted os started H enc)

theorem daemonTells_holds : Rows.DaemonTellsCardSaid :=
  Claim7.holds_tied_plain_at .later [] [.handle] true (true, "0095c7970d727e0365f455717386df79668f1c8288ba7aed3c5b0ac964ae3823") true
    daemonTells_said (fun _ h => by cases h) (by kernel_rfl) (fun _ h => by cases h) daemonTells_row_tie rfl ⟨rfl, rfl⟩ (by kernel_rfl) rfl
    (fun f fn hf hfn => by
      obtain rfl : f = 4 := Option.some.inj ((show Tryz.prog.funcNamed "waywarden/waywardenlaw3.DaemonTells" = some 4 by kernel_rfl).symm.trans hf) |>.symm
      obtain rfl : fn = Tryz.f4 := (Option.some.inj (Tryz.func4.symm.trans hfn)).symm
      refine ⟨by kernel_rfl, fun j t ht => ?_⟩
      rw [Tryz.params4] at ht
      match j, ht with
      | 0, ht => exact (Option.some.inj ht) ▸ (show Tryz.prog.wantsStandIn 22 = false by kernel_rfl)
      | 1, ht => exact (Option.some.inj ht) ▸ (show Tryz.prog.wantsStandIn 23 = false by kernel_rfl)
      | 2, ht => exact (Option.some.inj ht) ▸ (show Tryz.prog.wantsStandIn 22 = false by kernel_rfl)
      | 3, ht => exact (Option.some.inj ht) ▸ (show Tryz.prog.wantsStandIn 22 = false by kernel_rfl)
      | 4, ht => exact (Option.some.inj ht) ▸ (show Tryz.prog.wantsStandIn 22 = false by kernel_rfl)
      | 5, ht => exact (Option.some.inj ht) ▸ (show Tryz.prog.wantsStandIn 47 = false by kernel_rfl)
      | 6, ht => exact (Option.some.inj ht) ▸ (show Tryz.prog.wantsStandIn 27 = false by kernel_rfl)
      | 7, ht => exact (Option.some.inj ht) ▸ (show Tryz.prog.wantsStandIn 3 = false by kernel_rfl)
      | j + 8, ht => simp at ht)
    (by kernel_rfl)
end Go.Proofs.YtfglidaicjjpfaaGreatDoor
end
