import Derived.Test.YtbmeeglehbaggaaLfiS
namespace Go.Proofs.Ytbmeeglehbaggaa
open Go.RowKit Go.Maps
section
variable {w : World} {Pd : Nat → Prop} {sb n c : Nat} {to : Int} {L : FL}
theorem IR.le {H : Array Obj} {E : TypeId} {g lo n s n' s' : Nat} (h : IR H E g lo n s) (hn : n' ≤ n) (hs : s' ≤ s) : IR H E g lo n' s' := by
  obtain ⟨cs, h1, h2, h3⟩ := h
  exact ⟨cs, h1, by omega, fun i hi hi' => h3 i hi (by omega)⟩
theorem mput_len {M : List ((Int × Int) × Value)} {q : Int × Int} {u v : Value} (h : mget M q = some u) : (mput M q v).length ≤ M.length := by
  have hm := mget_some h
  unfold mput
  have : (M.filter fun p => decide (¬ p.1 = q)).length < M.length := List.length_filter_lt_length_iff_exists.2 ⟨_, hm, by simp⟩
  simp only [List.length_cons]
  omega

set_option maxRecDepth 100000 in
set_option maxHeartbeats 4000000 in
theorem ltake_any (a b : Int) (h : LN w Pd sb n to c L) (hc : c + 1 ≤ maxLen) :
    Calls Try.prog 21 #[.pointer (some ⟨sb, 0, none⟩), .int .i64 a, .int .i64 b] w (RetLX w Pd sb n to c L) := by
  have HL := Lib.hid h
  have hn := h.n8
  clear h
  go_enter Try.func21, Try.ntmps21
  go_wp2_with (fail)
  refine (lnear_any a b HL.out).mono ?_
  rintro e1 w1 ⟨rfl, hF1⟩
  have HL1 := Lib.hid (HL.out.fr0 hF1)
  have hsz := hF1.size
  have HF1 := Lib.hid (hF1.none Pd)
  clear hF1
  cases hq : lnear w L n a b with
  | some z =>
    rw [show errO (some z) = errv z from rfl]
    clear hq
    go_wp2
    go_ret
    exact ⟨_, rfl, HL1.out, HF1.out⟩
  | none =>
    rw [show errO none = .nilIface from rfl]
    obtain ⟨ha, hb, hab⟩ := lnear_none hq
    obtain ⟨i, rfl⟩ := Int.eq_ofNat_of_zero_le ha.1
    obtain ⟨k, rfl⟩ := Int.eq_ofNat_of_zero_le hb.1
    have hi : i < n := by omega
    have hk : k < n := by omega
    clear hq ha hb hab
    have hL1 := HL1.out
    obtain ⟨M, m1, m2, m3, m4⟩ := hL1.mp
    have hKQ : KeyOk ((i : Int), (k : Int)) := ⟨wf8 (by omega), wf8 (by omega)⟩
    have HK := Lib.hid (key2 i k hKQ.1 hKQ.2)
    have HI := Lib.hid (klp_inj m3 hKQ)
    have HW := Lib.hid (WayOk.get m4 ((i : Int), (k : Int)))
    have HKQ := Lib.hid hKQ
    have HM3 := Lib.hid m3
    have HM4 := Lib.hid m4
    obtain ⟨c0, -, c2, c3⟩ := hL1.cells
    have hls := hL1.lts
    have l0 := hls.1
    have lm := hls.2.2.2.1
    have lhr := (hls.2.2.2.2 k hk).2.2
    have hPm := hL1.pd.2.2.2.1
    have hPh := (hL1.pd.2.2.2.2 k hk).2.2
    clear hL1 hKQ m3 m4 hls
    obtain ⟨v0, hv0⟩ : ∃ v, v = (mget M ((i : Int), (k : Int))).getD (.slice none 0 0) := ⟨_, rfl⟩
    rw [← hv0] at HW
    have HV := Lib.hid hv0
    clear hv0
    obtain ⟨a0, n0, cap0, rfl, hle, hcase⟩ := HW.out
    have HCS := Lib.hid hcase
    clear hcase
    have hM2 := ((m1.fr (S := fun _ => False) ((Fr.refl _ w1).alloc (.cells #[.int .i64 i, .int .i64 k] 107)) (fun h => h)).fr (S := fun _ => False) (Fr.refl _ _).drew (fun h => h))
    by_cases hz : n0 = 0
    · have e0 : ((n0 : Int) == 0) = true := by simp [hz]
      go_wp2
      (refine wp_region_mix (fun _ => True) 5 (by kernel_rfl) (by kernel_rfl) (trivial) ?_; simp only [List.take_succ_cons, List.take_zero, List.drop_succ_cons, List.drop_zero])
      (refine wpMix_earlyN 5 (by kernel_rfl) (by kernel_rfl) ?_; simp only [List.take_succ_cons, List.take_zero, List.drop_succ_cons, List.drop_zero]; (repeat (go_big_quiet_step (fail))); refine wpQuiet_nil ?_)
      refine wpMix_nil ?_
      go_wp2_with (at_lookup; refine wpList_lookL rfl _ _ 99 rfl 107 22 keyed2 Try.underlying99 (zeroS _) L.mb M klp rfl hM2 _ ((i : Int), (k : Int)) rfl HK.out HI.out ?_; rw [← HV.out])
      go_ret
      exact ⟨_, rfl, (HL1.out.fr0 (((Fr.refl _ _).alloc _).drew)), (HF1.out.alloc _).drew⟩
    · have e0 : ((n0 : Int) == 0) = false := by simp [hz]
      obtain ⟨m0, rfl⟩ : ∃ m0, n0 = m0 + 1 := ⟨n0 - 1, by omega⟩
      have e0' : ((m0 : Int) + 1 == 0) = false := by simp; omega
      have hsome : ∃ u, mget M ((i : Int), (k : Int)) = some u := by
        cases hg : mget M ((i : Int), (k : Int)) with
        | none => have := HV.out; rw [hg] at this; cases this
        | some u => exact ⟨u, rfl⟩
      obtain ⟨u, hu⟩ := hsome
      have HU := Lib.hid hu
      obtain ⟨g, off, rfl, hpg, hIg⟩ : ∃ g off, a0 = some ⟨g, off, none⟩ ∧ Pd g ∧ IR w1.heap 3 g off (m0 + 1) (off + cap0) := by
        rcases HCS.out with ⟨-, h1, -⟩ | h1
        · omega
        · exact h1
      clear hu HCS hz
      go_wp2
      (refine wp_region_mix (fun _ => True) 5 (by kernel_rfl) (by kernel_rfl) (trivial) ?_; simp only [List.take_succ_cons, List.take_zero, List.drop_succ_cons, List.drop_zero])
      (refine wpMix_earlyN 5 (by kernel_rfl) (by kernel_rfl) ?_; simp only [List.take_succ_cons, List.take_zero, List.drop_succ_cons, List.drop_zero]; (repeat (go_big_quiet_step (fail))); refine wpQuiet_nil ?_)
      refine wpMix_nil ?_
      go_wp2_with (at_lookup; refine wpList_lookL rfl _ _ 99 rfl 107 22 keyed2 Try.underlying99 (zeroS _) L.mb M klp rfl hM2 _ ((i : Int), (k : Int)) rfl HK.out HI.out ?_; rw [← HV.out])
      have hFK : Fr (fun _ => False) w1 (w1.alloc (.cells #[.int .i64 i, .int .i64 k] 107)).drew := ((Fr.refl _ _).alloc _).drew
      have kc0 : (w1.alloc (.cells #[.int .i64 i, .int .i64 k] 107)).drew.cell? ⟨w1.heap.size, 0, none⟩ = some (.int .i64 i) := (Blk.made w1 107 [.int .i64 i, .int .i64 k]).cell 0
      have kc1 : (w1.alloc (.cells #[.int .i64 i, .int .i64 k] 107)).drew.cell? ⟨w1.heap.size, 1, none⟩ = some (.int .i64 k) := (Blk.made w1 107 [.int .i64 i, .int .i64 k]).cell 1
      have kl : w1.heap.size < (w1.alloc (.cells #[.int .i64 i, .int .i64 k] 107)).drew.heap.size := (Blk.made w1 107 [.int .i64 i, .int .i64 k]).lt
      clear hM2 c0 c2 c3
      generalize (w1.alloc (.cells #[.int .i64 i, .int .i64 k] 107)).drew = wK at *
      have hLK := HL1.out.fr0 hFK
      have mK := m1.fr hFK (fun h => h)
      obtain ⟨c0, -, c2, c3⟩ := hLK.cells
      obtain ⟨d0, -, -, d3, -, d5', d6'⟩ := hLK.rowN hk
      have d5 := d5' i hi
      have d6 := d6' i
      have dx := (hIg.fr hFK (fun h => h)).cell (i := off) (by omega) (by omega)
      generalize iv wK g off = x at *
      have HFK := Lib.hid (HF1.out.trans (hFK.none Pd))
      have hlk : (Instr.lookup 99 (.map (some L.mb)) (.agg #[.int .i64 i, .int .i64 k]) false).run Try.prog wK.drew = .ok (.slice (some ⟨g, off, none⟩) (m0 + 1) cap0) wK.drew := by
        rw [HV.out]
        exact lookL_eq keyed2 Try.underlying99 (zeroS _) (mK.fr (S := fun _ => False) (Fr.refl _ _).drew (fun h => h)) HK.out HI.out
      have HLS := Lib.hid ((hLK.setI (hLK.hR k hk) i x).fr0 (Fr.refl _ _).drew)
      have hIS : IR (wK.setCell ⟨L.hr k, i, none⟩ (.int .i64 x)).drew.heap 3 g off (m0 + 1) (off + cap0) := (hIg.fr hFK (fun h => h)).set (L.hr k) i x
      have HIS := Lib.hid hIS
      have hM4K : ∀ p ∈ M, WayOk (wK.setCell ⟨L.hr k, i, none⟩ (.int .i64 x)).drew.heap Pd p.2 := (fun (p : (Int × Int) × Value) (hp : p ∈ M) => (((HM4.out p hp).fr hFK (fun _ _ _ h => h)).set (L.hr k) i x : WayOk (wK.setCell ⟨L.hr k, i, none⟩ (.int .i64 x)).drew.heap Pd p.2))
      have HM4K := Lib.hid hM4K
      obtain ⟨cs, hblk, -⟩ := hLK.hR k hk
      have hFS : Fr (fun j => j = L.hr k) wK (wK.setCell ⟨L.hr k, i, none⟩ (.int .i64 x)).drew := ((Fr.refl (fun j => j = L.hr k) wK).setCell (p := ⟨L.hr k, i, none⟩) (fun _ => rfl) _).drew
      have mS := mK.fr hFS (mK.ne hblk)
      have lK : sb < wK.heap.size := by omega
      have s3 := (hFS.cell (p := ⟨sb, 3, none⟩) lK (hLK.sB.ne hblk (by decide))).trans c3
      have kn : ¬ w1.heap.size = L.hr k := by omega
      have sk0 := (hFS.cell (p := ⟨w1.heap.size, 0, none⟩) kl kn).trans kc0
      have sk1 := (hFS.cell (p := ⟨w1.heap.size, 1, none⟩) kl kn).trans kc1
      have HFS := Lib.hid (HFK.out.trans (hFS.mono (fun _ _ e => by rw [e]; exact hPh)))
      clear hIS hM4K hLK d5' d6' hFK hblk hFS hIg m1
      (refine wp_region_mix (fun _ => True) 19 (by kernel_rfl) (by kernel_rfl) (trivial) ?_; simp only [List.take_succ_cons, List.take_zero, List.drop_succ_cons, List.drop_zero])
      (refine wpMix_earlyN 19 (by kernel_rfl) (by kernel_rfl) ?_; simp only [List.take_succ_cons, List.take_zero, List.drop_succ_cons, List.drop_zero]; (repeat (go_big_quiet_step (fail))); refine wpQuiet_nil ?_)
      refine wpMix_nil ?_
      go_wp2_with (fail)
      clear hlk
      generalize (wK.setCell ⟨L.hr k, i, none⟩ (.int .i64 x)).drew = wX at *
      have mX := mS.fr (S := fun _ => False) (Fr.refl _ wX).drew (fun h => h)
      have hlk : (Instr.lookup 99 (.map (some L.mb)) (.agg #[.int .i64 i, .int .i64 k]) false).run Try.prog wX.drew = .ok (.slice (some ⟨g, off, none⟩) (m0 + 1) cap0) wX.drew := by
        rw [HV.out]
        exact lookL_eq keyed2 Try.underlying99 (zeroS _) mX HK.out HI.out
      have HLX := Lib.hid (HLS.out.fr0 (Fr.refl _ wX).drew)
      have HMX := Lib.hid mX
      clear c0 c2 c3 d0 d3 d5 d6 dx kc0 kc1 mK mS
      (refine wp_region_mix (fun _ => True) 12 (by kernel_rfl) (by kernel_rfl) (trivial) ?_; simp only [List.take_succ_cons, List.take_zero, List.drop_succ_cons, List.drop_zero])
      (refine wpMix_earlyN 12 (by kernel_rfl) (by kernel_rfl) ?_; simp only [List.take_succ_cons, List.take_zero, List.drop_succ_cons, List.drop_zero]; (repeat (go_big_quiet_step (fail))); refine wpQuiet_nil ?_)
      refine wpMix_nil ?_
      go_wp2_with (at_mapUpdate; refine wpList_mput rfl _ _ _ 99 rfl 107 22 keyed2 Try.underlying99 L.mb M klp rfl mX (by omega) _ _ ((i : Int), (k : Int)) rfl rfl HK.out HI.out ?_)
      all_goals
        intro w3 hM3 hF3 hz3
        have hIX : IR w3.heap 3 g off (m0 + 1) (off + cap0) := by
          have h1 : IR wX.drew.heap 3 g off (m0 + 1) (off + cap0) := HIS.out
          have h2 := HMX.out
          obtain ⟨cs, c1, -⟩ := id h1
          exact h1.fr hF3 (fun e => h2.ne c1 e.symm)
        have hL3 := LN.put HLX.out HMX.out HM3.out HM4K.out hF3 hM3 (Nat.le_trans (mput_len HU.out) m2) HKQ.out ⟨_, _, _, rfl, by omega, .inr (by
          first
          | exact ⟨g, off + 1, rfl, hpg, by have := hIX.next (m := m0) rfl; rwa [show off + 1 + (cap0 - 1) = off + cap0 by omega]⟩
          | exact ⟨g, off, rfl, hpg, IR.le hIX (by omega) (by omega)⟩)⟩
        have HL3 := Lib.hid hL3
        have HF3 := Lib.hid (HFS.out.trans ((Fr.refl Pd wX).drew.trans (hF3.mono (fun _ _ e => by rw [e]; exact hPm))))
        clear hL3 hF3 hM3 hz3 mX hlk s3 sk0 sk1 hIX
        go_wp2_with (fail)
        refine (lanew_any k hk HL3.out).mono ?_
        rintro e4 w4 ⟨rfl, hL4, hF4⟩
        have HL4 := Lib.hid hL4
        have HF4 := Lib.hid (HF3.out.trans hF4)
        clear hL4 hF4
        go_wp2
        go_ret
        exact ⟨_, rfl, HL4.out, HF4.out⟩
end
end Go.Proofs.Ytbmeeglehbaggaa
