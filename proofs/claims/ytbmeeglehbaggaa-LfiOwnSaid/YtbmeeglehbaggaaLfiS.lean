import Derived.Test.YtbmeeglehbaggaaLfiM
namespace Go.Proofs.Ytbmeeglehbaggaa
open Go.RowKit Go.Maps
section
variable {w : World} {Pd : Nat → Prop} {sb n c : Nat} {to : Int} {L : FL}
theorem wf8 {x : Nat} (h : x < 8) : (Lit.int .i64 (x : Int)).wf = true := by
  have h0 : (0 : Int) ≤ (x : Int) := by omega
  have h1 : (x : Int) ≤ 1000000 := by omega
  go_wf
theorem klp_inj {M : List ((Int × Int) × Value)} (h : ∀ p ∈ M, KeyOk p.1) {q : Int × Int} (hq : KeyOk q) : ∀ p ∈ M, klp p.1 = klp q → p.1 = q := fun p hp e => by
  obtain ⟨h1, h2⟩ := kl2_inj (h p hp).1 (h p hp).2 hq.1 hq.2 e
  exact Prod.ext h1 h2

set_option maxRecDepth 100000 in
set_option maxHeartbeats 4000000 in
theorem lsend_any (a b : Int) (h : LN w Pd sb n to c L) (hup : ∀ k, w.heap.size ≤ k → Pd k) (hc : c + 1 ≤ maxLen) :
    Calls Try.prog 20 #[.pointer (some ⟨sb, 0, none⟩), .int .i64 a, .int .i64 b] w (RetLX w Pd sb n to (c + 1) L) := by
  have HL := Lib.hid h
  have hn := h.n8
  have HUP := Lib.hid hup
  clear h hup
  go_enter Try.func20, Try.ntmps20
  go_wp2_with (fail)
  refine (lnear_any a b HL.out).mono ?_
  rintro e1 w1 ⟨rfl, hF1⟩
  have HL1 := Lib.hid (HL.out.fr0 hF1)
  have hsz := hF1.size
  have HF1 := Lib.hid (hF1.none Pd)
  clear hF1
  cases hq : lnear w L n a b with
  | some z =>
    rw [show errO (some z) = errv z from rfl]
    clear hq
    go_wp2
    go_ret
    exact ⟨_, rfl, HL1.out.mono (fun _ _ h => h) (by omega), HF1.out⟩
  | none =>
    rw [show errO none = .nilIface from rfl]
    obtain ⟨ha, hb, hab⟩ := lnear_none hq
    obtain ⟨i, rfl⟩ := Int.eq_ofNat_of_zero_le ha.1
    obtain ⟨k, rfl⟩ := Int.eq_ofNat_of_zero_le hb.1
    have hi : i < n := by omega
    have hk : k < n := by omega
    clear hq ha hb hab
    have hL1 := HL1.out
    obtain ⟨M, m1, m2, m3, m4⟩ := hL1.mp
    have hKQ : KeyOk ((i : Int), (k : Int)) := ⟨wf8 (by omega), wf8 (by omega)⟩
    have HK := Lib.hid (key2 i k hKQ.1 hKQ.2)
    have HI := Lib.hid (klp_inj m3 hKQ)
    have HW := Lib.hid (WayOk.get m4 ((i : Int), (k : Int)))
    have HKQ := Lib.hid hKQ
    have HM3 := Lib.hid m3
    have HM4 := Lib.hid m4
    have HM1 := Lib.hid m1
    obtain ⟨c0, -, c2, c3⟩ := hL1.cells
    obtain ⟨d0, d1, -, -, -, -, -⟩ := hL1.rowN hi
    have hls := hL1.lts
    have l0 := hls.1
    have lm := hls.2.2.2.1
    have ln := hls.2.2.1
    have lnd := (hls.2.2.2.2 i hi).2.1
    have hne : sb ≠ L.mb := fun e => m1.ne hL1.sB e.symm
    have hPm := hL1.pd.2.2.2.1
    clear hL1 hKQ m3 m4 hls
    obtain ⟨v0, hv0⟩ : ∃ v, v = (mget M ((i : Int), (k : Int))).getD (.slice none 0 0) := ⟨_, rfl⟩
    rw [← hv0] at HW
    have HV := Lib.hid hv0
    clear hv0
    obtain ⟨a0, n0, cap0, rfl, hle, hcase⟩ := HW.out
    have HCS := Lib.hid hcase
    clear hcase
    have hM2 := ((m1.fr (S := fun _ => False) ((Fr.refl _ w1).alloc (.cells #[.int .i64 i, .int .i64 k] 107)) (fun h => h)).fr (S := fun _ => False) (Fr.refl _ _).drew (fun h => h))
    by_cases hfull : 20 ≤ n0
    · have e0 : decide ((n0 : Int) ≥ 20) = true := by simp; omega
      go_wp2
      (refine wp_region_mix (fun _ => True) 5 (by kernel_rfl) (by kernel_rfl) (trivial) ?_; simp only [List.take_succ_cons, List.take_zero, List.drop_succ_cons, List.drop_zero])
      (refine wpMix_earlyN 5 (by kernel_rfl) (by kernel_rfl) ?_; simp only [List.take_succ_cons, List.take_zero, List.drop_succ_cons, List.drop_zero]; (repeat (go_big_quiet_step (fail))); refine wpQuiet_nil ?_)
      refine wpMix_nil ?_
      go_wp2_with (at_lookup; refine wpList_lookL rfl _ _ 99 rfl 107 22 keyed2 Try.underlying99 (zeroS _) L.mb M klp rfl hM2 _ ((i : Int), (k : Int)) rfl HK.out HI.out ?_; rw [← HV.out])
      go_ret
      exact ⟨_, rfl, (HL1.out.fr0 (((Fr.refl _ _).alloc _).drew)).mono (fun _ _ h => h) (by omega), (HF1.out.alloc _).drew⟩
    · have e0 : decide ((n0 : Int) ≥ 20) = false := by simp; omega
      go_wp2
      (refine wp_region_mix (fun _ => True) 5 (by kernel_rfl) (by kernel_rfl) (trivial) ?_; simp only [List.take_succ_cons, List.take_zero, List.drop_succ_cons, List.drop_zero])
      (refine wpMix_earlyN 5 (by kernel_rfl) (by kernel_rfl) ?_; simp only [List.take_succ_cons, List.take_zero, List.drop_succ_cons, List.drop_zero]; (repeat (go_big_quiet_step (fail))); refine wpQuiet_nil ?_)
      refine wpMix_nil ?_
      go_wp2_with (at_lookup; refine wpList_lookL rfl _ _ 99 rfl 107 22 keyed2 Try.underlying99 (zeroS _) L.mb M klp rfl hM2 _ ((i : Int), (k : Int)) rfl HK.out HI.out ?_; rw [← HV.out])
      have hFK : Fr (fun _ => False) w1 (w1.alloc (.cells #[.int .i64 i, .int .i64 k] 107)).drew := ((Fr.refl _ _).alloc _).drew
      have kc0 : (w1.alloc (.cells #[.int .i64 i, .int .i64 k] 107)).drew.cell? ⟨w1.heap.size, 0, none⟩ = some (.int .i64 i) := (Blk.made w1 107 [.int .i64 i, .int .i64 k]).cell 0
      have kc1 : (w1.alloc (.cells #[.int .i64 i, .int .i64 k] 107)).drew.cell? ⟨w1.heap.size, 1, none⟩ = some (.int .i64 k) := (Blk.made w1 107 [.int .i64 i, .int .i64 k]).cell 1
      have kl : w1.heap.size < (w1.alloc (.cells #[.int .i64 i, .int .i64 k] 107)).drew.heap.size := (Blk.made w1 107 [.int .i64 i, .int .i64 k]).lt
      clear hM2 c0 c2 c3 d0 d1
      generalize (w1.alloc (.cells #[.int .i64 i, .int .i64 k] 107)).drew = wK at *
      have HLK := Lib.hid (HL1.out.fr0 hFK)
      have mK := m1.fr hFK (fun h => h)
      have hLK := HLK.out
      obtain ⟨c0, -, c2, c3⟩ := hLK.cells
      obtain ⟨d0, d1, -, -, -, -, -⟩ := hLK.rowN hi
      have hS0 : ¬ (sb = L.mb ∨ ∃ off, a0 = some ⟨sb, off, none⟩) := by
        rintro (h | ⟨off, h⟩)
        · exact hne h
        · rcases HCS.out with ⟨h1, -⟩ | ⟨g, o, h1, -, cs, h2, -⟩
          · rw [h1] at h; cases h
          · rw [h1] at h; cases h
            exact HL1.out.sB.ne h2 (by decide) rfl
      have hS1 : ¬ (w1.heap.size = L.mb ∨ ∃ off, a0 = some ⟨w1.heap.size, off, none⟩) := by
        rintro (h | ⟨off, h⟩)
        · omega
        · rcases HCS.out with ⟨h1, -⟩ | ⟨g, o, h1, -, h2⟩
          · rw [h1] at h; cases h
          · rw [h1] at h; cases h
            exact absurd h2.lt (by omega)
      have l0K : sb < wK.heap.size := by omega
      have q1 : ∀ c : Cls (fun x => x = L.mb ∨ ∃ off, a0 = some ⟨x, off, none⟩) wK, c.wo.cell? ⟨sb, 3, none⟩ = some (.map (some L.mb)) := fun c => (c.fr.cell (p := ⟨sb, 3, none⟩) l0K hS0).trans c3
      have q2 : ∀ c : Cls (fun x => x = L.mb ∨ ∃ off, a0 = some ⟨x, off, none⟩) wK, c.wo.cell? ⟨w1.heap.size, 0, none⟩ = some (.int .i64 i) := fun c => (c.fr.cell (p := ⟨w1.heap.size, 0, none⟩) kl hS1).trans kc0
      have q3 : ∀ c : Cls (fun x => x = L.mb ∨ ∃ off, a0 = some ⟨x, off, none⟩) wK, c.wo.cell? ⟨w1.heap.size, 1, none⟩ = some (.int .i64 k) := fun c => (c.fr.cell (p := ⟨w1.heap.size, 1, none⟩) kl hS1).trans kc1
      clear hLK hS0 hS1
      generalize iv wK (L.nd i) 0 = far at *
      (refine wp_region_mix (fun w' => ∃ c : Cls (fun x => x = L.mb ∨ ∃ off, a0 = some ⟨x, off, none⟩) wK, w' = c.wo) 20 (by kernel_rfl) (by kernel_rfl) (⟨⟨_, (Fr.refl _ _).drew⟩, rfl⟩) ?_; simp only [List.take_succ_cons, List.take_zero, List.drop_succ_cons, List.drop_zero])
      (refine wpMix_lateN 5 (⟨⟨_, (Fr.refl _ _).drew⟩, rfl⟩) (by kernel_rfl) ?_; simp only [List.take_succ_cons, List.take_zero, List.drop_succ_cons, List.drop_zero]; (repeat (go_big_quiet_step (fail))); refine wpQuiet_nil ?_)
      (refine wpMix_earlyN 10 (by kernel_rfl) (by kernel_rfl) ?_; simp only [List.take_succ_cons, List.take_zero, List.drop_succ_cons, List.drop_zero]; (repeat (go_big_quiet_step (fail))); refine wpQuiet_nil ?_)
      refine wpMix_eff (by kernel_rfl) ?_
      go_wp2
      refine ⟨⟨⟨_, ((Fr.refl _ _).alloc _).drew⟩, rfl⟩, ?_⟩
      refine wpMix_eff (by kernel_rfl) ?_
      refine wpList_entry rfl _ _ 99 rfl 107 22 keylaw2 keyed2 Try.underlying99 zeroS L.mb M klp rfl (mK.fr (S := fun _ => False) (by first | exact ((Fr.refl _ _).alloc _).drew | exact ((Fr.refl _ _).drew).alloc _ | exact (Fr.refl _ _).alloc _) (fun h => h)) (by omega) _ ((i : Int), (k : Int)) rfl HK.out HI.out ?_
      intro st o1 hp
      rw [← HV.out]
      have hFA : Fr (fun _ => False) wK (wK.alloc (.cells #[.int .i64 far] 3)).drew := ((Fr.refl _ _).alloc _).drew
      have kx : (wK.alloc (.cells #[.int .i64 far] 3)).drew.cell? ⟨wK.heap.size, 0, none⟩ = some (.int .i64 far) := (Blk.made wK 3 [.int .i64 far]).cell 0
      have kxl : wK.heap.size < (wK.alloc (.cells #[.int .i64 far] 3)).drew.heap.size := (Blk.made wK 3 [.int .i64 far]).lt
      generalize (wK.alloc (.cells #[.int .i64 far] 3)).drew = wA at *
      have HLA := Lib.hid (HLK.out.fr0 hFA)
      have mA := mK.fr hFA (fun h => h)
      have hlmA := mA.lt
      have hF1A := hFK.trans hFA
      have m4A : ∀ p ∈ M, WayOk wA.heap Pd p.2 := fun p hp => (HM4.out p hp).fr hF1A (fun _ _ _ h => h)
      have hcA : (a0 = none ∧ n0 = 0 ∧ cap0 = 0) ∨ ∃ g off, a0 = some ⟨g, off, none⟩ ∧ Pd g ∧ IR wA.heap 3 g off n0 (off + cap0) := HCS.out.imp id (fun ⟨g, off, e, hp, hI⟩ => ⟨g, off, e, hp, hI.fr hF1A (fun h => h)⟩)
      have hFB := fr_setBlock wA L.mb o1
      have hcB : (a0 = none ∧ n0 = 0 ∧ cap0 = 0) ∨ ∃ g off, a0 = some ⟨g, off, none⟩ ∧ IR (ChangeMaps.setBlock wA L.mb o1).heap 3 g off n0 (off + cap0) := hcA.imp id (fun ⟨g, off, e, hp, hI⟩ => ⟨g, off, e, hI.fr hFB (fun e => by obtain ⟨cs, c1, -⟩ := hI; exact mA.ne c1 e.symm)⟩)
      have kxB := (hFB.cell (p := ⟨wK.heap.size, 0, none⟩) kxl (by have := mK.lt; show ¬ wK.heap.size = L.mb; omega)).trans kx
      have hFSB : Fr (fun x => x = L.mb ∨ ∃ off, a0 = some ⟨x, off, none⟩) wK (ChangeMaps.setBlock wA L.mb o1) := (hFA.none _).trans (hFB.mono (fun _ _ e => .inl e))
      have hSE := fun (v : Value) (wC : World) (hA : AppW (ChangeMaps.setBlock wA L.mb o1) a0 n0 cap0 far v wC) => send_end HLA.out mA m2 HM3.out m4A HKQ.out hcA hA (fun k hk => HUP.out k (Nat.le_trans hsz (Nat.le_trans hF1A.size hk)))
      have HSE := Lib.hid hSE
      have HFA := Lib.hid (HF1.out.trans ((hFK.trans hFA).none Pd))
      have HFKA := Lib.hid hFA
      clear hSE hFB hcA m4A hF1A mA hFA kx kc0 kc1 q1 q2 q3 c0 c2 c3 d0 d1
      generalize ChangeMaps.setBlock wA L.mb o1 = wB at *
      go_wp2
      refine ⟨⟨⟨_, hFSB⟩, rfl⟩, ?_⟩
      (refine wpMix_lateN 1 (⟨⟨_, (Fr.refl _ _).drew⟩, rfl⟩) (by kernel_rfl) ?_; simp only [List.take_succ_cons, List.take_zero, List.drop_succ_cons, List.drop_zero]; (repeat (go_big_quiet_step (fail))); refine wpQuiet_nil ?_)
      refine wpMix_eff (by kernel_rfl) ?_
      refine wpList_appW rfl _ _ rfl rfl hcB (by omega) rfl kxB ?_
      intro v wC hA
      obtain ⟨s1, s2, s3⟩ := HSE.out v wC hA
      have hFC := (HFKA.out.none _).trans s2
      have HS3 := Lib.hid s3
      clear hA hcB kxB hFSB s2 s3
      go_wp2
      refine ⟨⟨⟨_, hFC⟩, rfl⟩, ?_⟩
      (refine wpMix_lateN 1 (⟨⟨_, (Fr.refl _ _).drew⟩, rfl⟩) (by kernel_rfl) ?_; simp only [List.take_succ_cons, List.take_zero, List.drop_succ_cons, List.drop_zero]; (repeat (go_big_quiet_step (fail))); refine wpQuiet_nil ?_)
      refine wpMix_nil ?_
      refine wpList_estore rfl _ _ _ 99 rfl 107 L.mb M klp _ st o1 hp rfl rfl v rfl s1 ?_
      intro o' hM'
      obtain ⟨z1, z2⟩ := HS3.out o' hM'
      have Z1 := Lib.hid z1
      have Z2 := Lib.hid (HFA.out.trans z2)
      clear z1 z2 hM' s1
      generalize ChangeMaps.setBlock wC L.mb o' = wD at *
      go_wp2
      go_ret
      exact ⟨_, rfl, Z1.out, Z2.out⟩
end
end Go.Proofs.Ytbmeeglehbaggaa
